/-
  hedgref.MapKeys: what it answers
  hedgref.deskLine: a line that asks nothing of the map: what it answers
-/
import Derived.Test.YtcljlnagpjilaaaGreatDoorG1
import Derived.Test.YtcljlnagpjilaaaGreatDoorG45
import Derived.Test.YtcljlnagpjilaaaGreatDoorG16
import Derived.Test.YtcljlnagpjilaaaGreatDoorG26
import Derived.Test.YtcljlnagpjilaaaGreatDoorG42
import Derived.Test.YtcljlnagpjilaaaGreatDoorG36

set_option linter.unusedVariables false
set_option linter.unusedSimpArgs false
set_option maxRecDepth 100000
set_option maxHeartbeats 8000000
namespace Go.Proofs.YtcljlnagpjilaaaGreatDoor
open Go.ChangeShapes Go.WideShapes Go.ChangeAt Go.RowKit
def MkRel (l : List IP) (w : World) (ov iv : Value) (wr : World) : Prop := ∃ k : Nat, k <= l.length /\ iv = .int .i64 k /\ OW wr w.heap.size 3 eInt ov ((l.take k).map Prod.fst) /\ Kp w wr
theorem mapKeys_any (l : List IP) (v : Value) (w : World) (hr : RD w ePair v l) (hn : l.length <= 1000000) : Calls Tryz.prog 51 #[v] w (RetOW 3 eInt (l.map Prod.fst) w) := by
 obtain ⟨A, c, rfl, hc, hm⟩ := hr.shape
 have HR := hide hr
 clear hr
 go_enter Tryz.func51, Tryz.ntmps51
 go_wp2
 go_loopw [3, 8] (MkRel l w) (fun _ i _ => l.length - (intOf i).toNat)
 case atStart => exact ⟨0, by omega, rfl, OW.nil, Kp.refl _⟩
 case round =>
  obtain ⟨k, hk, rfl, ho, hkp⟩ := hrel
  have hi := ho.hi
  have HO := hide ho
  obtain ⟨u, hu⟩ : ∃ u, u = u3 := ⟨_, rfl⟩
  by_cases hlt : k < l.length
  ·obtain ⟨b, o, rfl, _, x0, x1⟩ := (HR.out.kp hkp).pair hlt
   obtain ⟨y, hy⟩ : ∃ y, y = l[k].1 := ⟨_, rfl⟩
   rw [<- hy] at x0
   have HN : Hid ((l.take k).map Prod.fst ++ [y] = (l.take (k + 1)).map Prod.fst) := hide (by rw [List.take_succ_eq_append_getElem hlt, List.map_append, hy]; rfl)
   have HM1 : Hid ((((l.take k).map Prod.fst).length + [y].length) * 8 <= 140737488355328) := hide (by simp; omega)
   have HM2 : Hid (((l.take k).map Prod.fst).length + [y].length <= maxLen) := hide (by simp [maxLen]; omega)
   clear hy ho hu
   go_wp2_with (at_builtin; (with_reducible refine list_app (B := w.heap.size) (l := (l.take k).map Prod.fst) (m := [y]) row_int u3 ?_ (.tmp 12) (.tmp 15) ?_ ?_ ?_ ?_ HM1.out HM2.out ?_ ?_); (with_reducible rfl); (with_reducible rfl); rfl; ((with_reducible apply OW.alloc); (with_reducible apply OW.alloc); exact HO.out); (show RD _ _ (.slice (some ⟨_, 0, none⟩) 1 1) _; (exact RD.auto)); (have := hkp.size; simp; omega); intro v3 w3 ho3 hg3 hat3)
   go_roundw
   case rel => exact ⟨k + 1, by omega, by go_num, by rw [<- HN.out]; exact ho3, Kp.app hg3 hkp.alloc.alloc hi⟩
   case measure => simp [intOf]; omega
  ·have hkl : Hid ((l.take k).map Prod.fst = l.map Prod.fst) := hide (by rw [List.take_of_length_le (by omega)])
   clear ho hu
   go_wp2
   go_ret
   exact ⟨_, rfl, by rw [<- hkl.out]; exact HO.out, hkp.bel⟩
theorem wordsF_none {r : List Int} (h : r ≠ []) (a b : By) : wordsF r a = wordsF r b := by rw [wordsF, wordsF, if_neg h, if_neg h]
theorem rowsN_ne (ks : List Int) : ∀ r ∈ rowsN ks 12, r ≠ [] := by
 obtain ⟨R, _, e, _, h⟩ := rowsN_range ks
 rw [e]
 intro r hr
 obtain ⟨q, hq, rfl⟩ := List.mem_map.1 hr
 exact h q (List.mem_range.1 hq)
theorem keys_nn {l : List IP} (h : mapRight l = 0) : NN (l.map Prod.fst) := fun x hx => by
 obtain ⟨p, hp, rfl⟩ := List.mem_map.1 hx
 have := mapRight_in l h p hp
 omega
def rwB (r : List Int) : ByteArray := bs (wordsF r noneB)
def LrRel (p : List (List Int)) (w : World) (ov iv : Value) (wr : World) : Prop := ∃ k : Nat, k <= p.length /\ iv = .int .i64 k /\ OW wr w.heap.size 9 eStr ov ((p.take k).map rwB) /\ Kp w wr
theorem li_rows (l : List IP) (ops : List O3) (ws : List ByteArray) (v u vw : Value) (w : World) (hl : RD w ePair v l) (ho : RD w eOp u ops) (hw : RD w eStr vw ws) (hin : DkIn l ops) (hn : ops.length <= 200)
  (hss : ∀ s ∈ ws, s.size <= 9223372036854775807) (hne : ∀ s ∈ ws, s ≠ ByteArray.empty) (h0 : ws ≠ []) (hwl : ws.length <= 4294967296) (hk : kOf ws = 0) (h1 : wAt ws 0 = rowsB) (hlen : ws.length = 1) :
  Calls Tryz.prog 22 #[v, u, vw] w (LiPost (ansW l ops ws) w) := by
 obtain ⟨W1, hW1⟩ : ∃ W1, W1 = w.alloc (.cells #[.string ⟨#[112, 117, 116]⟩, .string ⟨#[103, 101, 116]⟩, .string ⟨#[99, 117, 116]⟩, .string ⟨#[110, 101, 120, 116]⟩, .string ⟨#[112, 114, 101, 118]⟩, .string ⟨#[99, 111, 117, 110, 116]⟩, .string ⟨#[110, 116, 104]⟩] 9) := ⟨_, rfl⟩
 have hk1 : Kp w W1 := by rw [hW1]; exact (Kp.refl w).alloc
 have hb1 : RD W1 eStr (.slice (some ⟨w.heap.size, 0, none⟩) 7 7) kindsB := by rw [hW1]; exact RD.block (l := kindsB) (heap_alloc_new w _) rfl (by simp [kindsB, maxLen])
 obtain ⟨A, c, rfl, hc, hcm⟩ := hw.shape
 obtain ⟨b, o, rfl, _, x0⟩ := hw.str (k := 0) (List.length_pos_iff.2 h0)
 rw [Nat.add_zero] at x0
 have hl0 : 0 < ws.length := List.length_pos_iff.2 h0
 have hl0i : (0 : Int) < (ws.length : Int) := by omega
 have d0 : decide (0 < ws.length) = true := decide_eq_true hl0
 obtain ⟨s0, hs0⟩ : ∃ s0, s0 = ws[0] := ⟨_, rfl⟩
 have hse : ws.getD 0 ByteArray.empty = ws[0] := by simp [List.getD_eq_getElem?_getD, List.getElem?_eq_getElem hl0]
 obtain ⟨K, hK⟩ : ∃ K : Int, K = kOf ws := ⟨_, rfl⟩
 have hk' : kindOf s0 = K := by rw [hs0, <- hse, hK, kOf]
 have hw0 : s0.toList = wAt ws 0 := by rw [ByteArray.toList_eq, hs0, wAt, hse]
 have hK7 : 0 <= K /\ K <= 7 := by rw [<- hk']; exact kind_in s0
 rw [<- hs0] at x0
 have x1 := hk1.cell x0
 rw [hW1] at x1
 have HX0 := hide (hk1.cell x0)
 have HI : Hid (Calls Tryz.prog 46 #[.slice (some ⟨w.heap.size, 0, none⟩) 7 7, .string s0] W1 (fun e w' => e = .returned (.int .i64 (K - 1)) /\ w' = W1)) := hide (by
  have := idx_any s0 W1 w.heap.size hb1
  rwa [hk'] at this)
 obtain ⟨ix, hix⟩ : ∃ ix : Int, ix = K - 1 := ⟨_, rfl⟩
 rw [<- hix] at HI
 have HIX := hide hix
 obtain ⟨A1, hA1⟩ : ∃ A1, (if c = 1 then some (⟨b, o, none⟩ : Addr) else some ⟨b, o + 1, none⟩) = A1 := ⟨_, rfl⟩
 have HRD1 : Hid (RD W1 eStr (.slice A1 (ws.length - 1) (c - 1)) (ws.drop 1)) := hide ((hw.kp hk1).dropS (by omega) (s := 1) rfl (by rw [Nat.mul_one]; exact hA1))
 have HL := hide (hl.kp hk1)
 have HOP := hide (ho.kp hk1)
 have HW := hide (hw.kp hk1)
 have HK1 := hide hk1
 have HKK := hide hK
 obtain ⟨Al, cl, rfl, _, _⟩ := hl.shape
 obtain ⟨Ao, co, rfl, _, _⟩ := ho.shape
 have HIN := hide hin
 have HWS := hide (And.intro hss hne)
 rw [<- hK] at hk
 clear hb1 hse hk' hs0 hl ho hw hK x0 hk1 hin hss hne hix
 obtain rfl : K = 0 := hk
 obtain rfl : ix = -1 := by have := HIX.out; omega
 have HA0 : Hid (ansW l ops ws = (l, ops, match lineS (l.map Prod.fst) ops ws with | .ok s => s | .error e => errB e)) := hide (by rw [ansW, if_neg (by rw [<- HKK.out]; omega)]; rfl)
 have HKL : Hid (l.length <= 200) := hide (mapRight_len l HIN.out.right)
 have HKR : Hid (krL (l.map Prod.fst) = 0) := hide (by rw [<- HIN.out.run]; exact runL_keys ops)
 have HMK := hide (fun v W h => mapKeys_any l v W h (by have := HKL.out; omega))
 have b0 : (s0.toList == [114, 111, 119, 115]) = true := beq_iff_eq.2 (hw0.trans h1)
 have bl1 : ((ws.length : Int) == 1) = true := beq_iff_eq.2 (by omega)
 have hri := rows_in (l.map Prod.fst)
 have HLS : Hid (lineS (l.map Prod.fst) ops ws = .ok (if rowsN (l.map Prod.fst) 12 = [] then noneB else Lib.join ((rowsN (l.map Prod.fst) 12).map fun r => wordsF r []) [124])) := hide (by
  rw [lineS, if_pos ⟨h1, hlen⟩, rowsS, rowsOf, if_pos HKR.out, if_pos rfl])
 rw [rowsOf, if_pos HKR.out] at hri
 have HNE := hide (rowsN_ne (l.map Prod.fst))
 have HRO := hide (fun v W h => rowsOf_any (l.map Prod.fst) v W h (by rw [List.length_map]; have := HKL.out; omega))
 have HKIN := hide (keys_nn HIN.out.right)
 have hsub : ∀ r ∈ rowsN (l.map Prod.fst) 12, r.length <= 1000000 /\ NN r := fun r hr => by
  obtain ⟨R, _, e, _, _⟩ := rowsN_range (l.map Prod.fst)
  rw [e] at hr
  obtain ⟨q, _, rfl⟩ := List.mem_map.1 hr
  have := rowK_len (l.map Prod.fst) q
  rw [List.length_map] at this
  exact ⟨by have := HKL.out; omega, fun x hx => HKIN.out x (mem_rowH.1 hx).1⟩
 obtain ⟨ps, hps⟩ : ∃ ps, ps = rowsN (l.map Prod.fst) 12 := ⟨_, rfl⟩
 rw [<- hps] at HLS HNE HRO hsub hri
 have HSUB := hide hsub
 have hpl := hri.1
 obtain ⟨ks, hks⟩ : ∃ ks, ks = l.map Prod.fst := ⟨_, rfl⟩
 rw [<- hks] at HLS HRO HMK HA0
 clear hri hsub hps hks hw0 h1 hlen
 go_enter Tryz.func22, Tryz.ntmps22
 go_wp2_with fail
 rw [<- hW1]
 refine HI.out.mono ?_
 rintro e w1' ⟨rfl, hw1'⟩
 rw [hw1']
 clear x1 hw1' hW1
 go_wp2_with fail
 refine (HMK.out _ _ HL.out).mono ?_
 rintro e w2 ⟨v2, rfl, ho2, hb2⟩
 have hk2 := Kp.of hb2
 have HR2 := hide ho2.rd
 obtain ⟨A2, n2, c2, rfl⟩ := ho2.rd.slice
 have x2 := hk2.cell HX0.out
 clear ho2 hb2
 go_wp2_with fail
 refine (HRO.out _ _ HR2.out).mono ?_
 rintro e w3 ⟨v3, rfl, hr3, hk3⟩
 obtain ⟨A3, c3, rfl, hc3, _⟩ := hr3.shape
 have HRR := hide hr3
 clear hr3
 go_wp2
 go_loopw [20, 144] (LrRel ps w3) (fun _ i _ => ps.length - (intOf i).toNat)
 case atStart => exact ⟨0, by omega, rfl, OW.nil, Kp.refl _⟩
 case round =>
  obtain ⟨k, hk, rfl, ho, hkp⟩ := hrel
  have hi := ho.hi
  have HO := hide ho
  obtain ⟨u', hu'⟩ : ∃ u', u' = u20 := ⟨_, rfl⟩
  by_cases hlt : k < ps.length
  ·obtain ⟨b, o, z, rfl, _, y0, hru⟩ := (HRR.out.kp hkp).at_ hlt
   obtain ⟨y, hy⟩ : ∃ y, y = ps[k] := ⟨_, rfl⟩
   rw [<- hy] at hru
   have hy2 := HSUB.out y (by rw [hy]; exact List.getElem_mem hlt)
   have HN : Hid ((ps.take k).map rwB ++ [rwB y] = (ps.take (k + 1)).map rwB) := hide (by rw [List.take_succ_eq_append_getElem hlt, List.map_append, hy]; rfl)
   have HM1 : Hid ((((ps.take k).map rwB).length + [rwB y].length) * 16 <= 140737488355328) := hide (by simp at hpl ⊢; omega)
   have HM2 : Hid (((ps.take k).map rwB).length + [rwB y].length <= maxLen) := hide (by simp [maxLen] at hpl ⊢; omega)
   have HW5 := hide (wordsOf_any y z wr hru hy2.1 hy2.2)
   obtain ⟨Az, cz, rfl, _, _⟩ := hru.shape
   clear hy ho hu' hy2 hru
   go_wp2_with fail
   refine HW5.out.mono ?_
   rintro e w5 ⟨rfl, hk5⟩
   have hkp5 := hkp.trans hk5
   have ho5 := hide (HO.out.below hk5)
   rw [show bs (wordsF y noneB) = rwB y from rfl]
   go_wp2_with (at_builtin; (with_reducible refine list_app (B := w3.heap.size) (l := (ps.take k).map rwB) (m := [rwB y]) row_str u20 ?_ (.tmp 148) (.tmp 151) ?_ ?_ ?_ ?_ HM1.out HM2.out ?_ ?_); (with_reducible rfl); (with_reducible rfl); rfl; ((with_reducible apply OW.alloc); exact ho5.out); (show RD _ _ (.slice (some ⟨_, 0, none⟩) 1 1) _; (exact RD.auto)); (have := hkp5.size; simp; omega); intro v6 w6 ho6 hg6 hat6)
   go_roundw
   case rel => exact ⟨k + 1, by omega, by go_num, by rw [<- HN.out]; exact ho6, Kp.app hg6 hkp5.alloc hi⟩
   case measure => simp [intOf]; omega
  ·have hkl : Hid ((ps.take k).map rwB = (ps.map (fun r => wordsF r [])).map bs) := hide (by
    rw [List.take_of_length_le (by omega), List.map_map]
    refine List.map_congr_left fun r hr => ?_
    show bs (wordsF r noneB) = bs (wordsF r [])
    rw [wordsF_none (HNE.out r hr) noneB []])
   have hrd := ho.rd
   rw [hkl.out] at hrd
   have hjn := join_lenN 22000021 [124] (ps.map (fun r => wordsF r [])) (fun x hx => by
    obtain ⟨r, hr, rfl⟩ := List.mem_map.1 hx
    exact wordsF_len r (HSUB.out r hr).2.in64 (HSUB.out r hr).1 [] (by simp))
   have hlp : (ps.map (fun r => wordsF r [])).length = ps.length := List.length_map _
   have hlp2 : ((ps.map (fun r => wordsF r [])).map bs).length = ps.length := by rw [List.length_map, List.length_map]
   have hp1000 : ps.length <= 1000 := hpl
   have HJ := hide (join_any (ps.map (fun r => wordsF r [])) [124] u20 wr hrd (by rw [hlp]; omega) (by rw [hlp] at hjn; simp only [List.length_singleton] at hjn; omega))
   obtain ⟨A5, c5, rfl, hc5, _⟩ := hrd.shape
   rw [hlp2] at HJ hrd
   rw [hlp2]
   clear ho hu' hrd hjn hlp hlp2 hc5 hkl HO hi
   have HK9 := hide (hk2.trans (hk3.trans hkp))
   by_cases hp0 : ps = []
   ·have HA : Hid (ansW l ops ws = (l, ops, noneB)) := hide (by rw [HA0.out, HLS.out, if_pos hp0])
    subst hp0
    go_wp2
    go_ret3
    refine ⟨_, _, by rw [HA.out]; rfl, by rw [HA.out]; exact HL.out.kp HK9.out, by rw [HA.out]; exact HOP.out.kp HK9.out, HK1.out.trans HK9.out⟩
   ·have HA : Hid (ansW l ops ws = (l, ops, Lib.join (ps.map (fun r => wordsF r [])) [124])) := hide (by rw [HA0.out, HLS.out, if_neg hp0])
    have hl0 : 0 < ps.length := List.length_pos_iff.2 hp0
    have b00 : ((ps.length : Int) == 0) = false := beq_eq_false_iff_ne.2 (by omega)
    clear hp0
    go_wp2_with fail
    refine HJ.out.mono ?_
    rintro e w4 ⟨rfl, hk4⟩
    have HK10 := hide (HK9.out.trans hk4)
    go_wp2
    go_ret3
    refine ⟨_, _, by rw [HA.out]; rfl, by rw [HA.out]; exact HL.out.kp HK10.out, by rw [HA.out]; exact HOP.out.kp HK10.out, HK1.out.trans HK10.out⟩
end Go.Proofs.YtcljlnagpjilaaaGreatDoor
