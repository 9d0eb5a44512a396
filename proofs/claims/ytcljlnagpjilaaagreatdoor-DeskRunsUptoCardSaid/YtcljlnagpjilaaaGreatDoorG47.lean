/-
  hedgref.deskLine: path, tree, deep, and whatever is none: what it answers
-/
import Derived.Test.YtcljlnagpjilaaaGreatDoorG46
import Derived.Lib.MinMax

set_option linter.unusedVariables false
set_option linter.unusedSimpArgs false
set_option maxRecDepth 100000
set_option maxHeartbeats 8000000
namespace Go.Proofs.YtcljlnagpjilaaaGreatDoor
open Go.ChangeShapes Go.WideShapes Go.ChangeAt Go.RowKit
theorem li_len (l : List IP) (ops : List O3) (ws : List ByteArray) (v u vw : Value) (w : World) (hl : RD w ePair v l) (ho : RD w eOp u ops) (hw : RD w eStr vw ws) (hin : DkIn l ops) (hn : ops.length <= 200)
  (hss : ∀ s ∈ ws, s.size <= 9223372036854775807) (hne : ∀ s ∈ ws, s ≠ ByteArray.empty) (h0 : ws ≠ []) (hwl : ws.length <= 4294967296) (hk : kOf ws = 0) (h1 : ¬ (wAt ws 0 = rowsB /\ ws.length = 1)) (hlen : ws.length ≠ 2) :
  Calls Tryz.prog 22 #[v, u, vw] w (LiPost (ansW l ops ws) w) := by
 obtain ⟨W1, hW1⟩ : ∃ W1, W1 = w.alloc (.cells #[.string ⟨#[112, 117, 116]⟩, .string ⟨#[103, 101, 116]⟩, .string ⟨#[99, 117, 116]⟩, .string ⟨#[110, 101, 120, 116]⟩, .string ⟨#[112, 114, 101, 118]⟩, .string ⟨#[99, 111, 117, 110, 116]⟩, .string ⟨#[110, 116, 104]⟩] 9) := ⟨_, rfl⟩
 have hk1 : Kp w W1 := by rw [hW1]; exact (Kp.refl w).alloc
 have hb1 : RD W1 eStr (.slice (some ⟨w.heap.size, 0, none⟩) 7 7) kindsB := by rw [hW1]; exact RD.block (l := kindsB) (heap_alloc_new w _) rfl (by simp [kindsB, maxLen])
 obtain ⟨A, c, rfl, hc, hcm⟩ := hw.shape
 obtain ⟨b, o, rfl, _, x0⟩ := hw.str (k := 0) (List.length_pos_iff.2 h0)
 rw [Nat.add_zero] at x0
 have hl0 : 0 < ws.length := List.length_pos_iff.2 h0
 have hl0i : (0 : Int) < (ws.length : Int) := by omega
 have d0 : decide (0 < ws.length) = true := decide_eq_true hl0
 obtain ⟨s0, hs0⟩ : ∃ s0, s0 = ws[0] := ⟨_, rfl⟩
 have hse : ws.getD 0 ByteArray.empty = ws[0] := by simp [List.getD_eq_getElem?_getD, List.getElem?_eq_getElem hl0]
 obtain ⟨K, hK⟩ : ∃ K : Int, K = kOf ws := ⟨_, rfl⟩
 have hk' : kindOf s0 = K := by rw [hs0, <- hse, hK, kOf]
 have hw0 : s0.toList = wAt ws 0 := by rw [ByteArray.toList_eq, hs0, wAt, hse]
 have hK7 : 0 <= K /\ K <= 7 := by rw [<- hk']; exact kind_in s0
 rw [<- hs0] at x0
 have x1 := hk1.cell x0
 rw [hW1] at x1
 have HX0 := hide (hk1.cell x0)
 have HI : Hid (Calls Tryz.prog 46 #[.slice (some ⟨w.heap.size, 0, none⟩) 7 7, .string s0] W1 (fun e w' => e = .returned (.int .i64 (K - 1)) /\ w' = W1)) := hide (by
  have := idx_any s0 W1 w.heap.size hb1
  rwa [hk'] at this)
 obtain ⟨ix, hix⟩ : ∃ ix : Int, ix = K - 1 := ⟨_, rfl⟩
 rw [<- hix] at HI
 have HIX := hide hix
 obtain ⟨A1, hA1⟩ : ∃ A1, (if c = 1 then some (⟨b, o, none⟩ : Addr) else some ⟨b, o + 1, none⟩) = A1 := ⟨_, rfl⟩
 have HRD1 : Hid (RD W1 eStr (.slice A1 (ws.length - 1) (c - 1)) (ws.drop 1)) := hide ((hw.kp hk1).dropS (by omega) (s := 1) rfl (by rw [Nat.mul_one]; exact hA1))
 have HL := hide (hl.kp hk1)
 have HOP := hide (ho.kp hk1)
 have HW := hide (hw.kp hk1)
 have HK1 := hide hk1
 have HKK := hide hK
 obtain ⟨Al, cl, rfl, _, _⟩ := hl.shape
 obtain ⟨Ao, co, rfl, _, _⟩ := ho.shape
 have HIN := hide hin
 have HWS := hide (And.intro hss hne)
 rw [<- hK] at hk
 clear hb1 hse hk' hs0 hl ho hw hK x0 hk1 hin hss hne hix
 obtain rfl : K = 0 := hk
 obtain rfl : ix = -1 := by have := HIX.out; omega
 have HA0 : Hid (ansW l ops ws = (l, ops, match lineS (l.map Prod.fst) ops ws with | .ok s => s | .error e => errB e)) := hide (by rw [ansW, if_neg (by rw [<- HKK.out]; omega)]; rfl)
 have HKL : Hid (l.length <= 200) := hide (mapRight_len l HIN.out.right)
 have HKR : Hid (krL (l.map Prod.fst) = 0) := hide (by rw [<- HIN.out.run]; exact runL_keys ops)
 have HMK := hide (fun v W h => mapKeys_any l v W h (by have := HKL.out; omega))
 have HA : Hid (ansW l ops ws = (l, ops, errB 1)) := hide (by rw [HA0.out, lineS, if_neg h1, if_pos hlen])
 have bl2 : ((ws.length : Int) == 2) = false := beq_eq_false_iff_ne.2 (by omega)
 by_cases h2 : wAt ws 0 = rowsB
 ·have b0 : (s0.toList == [114, 111, 119, 115]) = true := beq_iff_eq.2 (hw0.trans h2)
  have bl1 : ((ws.length : Int) == 1) = false := beq_eq_false_iff_ne.2 (fun e => h1 ⟨h2, by omega⟩)
  clear hw0 h1 h2 hlen
  go_enter Tryz.func22, Tryz.ntmps22
  go_wp2_with fail
  rw [<- hW1]
  refine HI.out.mono ?_
  rintro e w1' ⟨rfl, hw1'⟩
  rw [hw1']
  clear x1 hw1' hW1
  go_wp2_with fail
  refine (HMK.out _ _ HL.out).mono ?_
  rintro e w2 ⟨v2, rfl, ho2, hb2⟩
  have hk2 := Kp.of hb2
  have HR2 := hide ho2.rd
  obtain ⟨A2, n2, c2, rfl⟩ := ho2.rd.slice
  have x2 := hk2.cell HX0.out
  clear ho2 hb2
  go_wp2
  go_ret3
  exact ⟨_, _, by rw [HA.out, errB_one]; rfl, by rw [HA.out]; exact HL.out.kp hk2, by rw [HA.out]; exact HOP.out.kp hk2, HK1.out.trans hk2⟩
 ·have b0 : (s0.toList == [114, 111, 119, 115]) = false := beq_eq_false_iff_ne.2 (fun e => h2 (hw0.symm.trans e))
  clear hw0 h1 h2 hlen
  go_enter Tryz.func22, Tryz.ntmps22
  go_wp2_with fail
  rw [<- hW1]
  refine HI.out.mono ?_
  rintro e w1' ⟨rfl, hw1'⟩
  rw [hw1']
  clear x1 hw1' hW1
  go_wp2_with fail
  refine (HMK.out _ _ HL.out).mono ?_
  rintro e w2 ⟨v2, rfl, ho2, hb2⟩
  have hk2 := Kp.of hb2
  have HR2 := hide ho2.rd
  obtain ⟨A2, n2, c2, rfl⟩ := ho2.rd.slice
  have x2 := hk2.cell HX0.out
  clear ho2 hb2
  go_wp2
  go_ret3
  exact ⟨_, _, by rw [HA.out, errB_one]; rfl, by rw [HA.out]; exact HL.out.kp hk2, by rw [HA.out]; exact HOP.out.kp hk2, HK1.out.trans hk2⟩
def LpRel (p : List IP) (w : World) (ov iv : Value) (wr : World) : Prop := ∃ k : Nat, k <= p.length /\ iv = .int .i64 k /\ OW wr w.heap.size 3 eInt ov ((p.take k).map Prod.snd) /\ Kp w wr
theorem li_path (l : List IP) (ops : List O3) (ws : List ByteArray) (v u vw : Value) (w : World) (hl : RD w ePair v l) (ho : RD w eOp u ops) (hw : RD w eStr vw ws) (hin : DkIn l ops) (hn : ops.length <= 200)
  (hss : ∀ s ∈ ws, s.size <= 9223372036854775807) (hne : ∀ s ∈ ws, s ≠ ByteArray.empty) (h0 : ws ≠ []) (hwl : ws.length <= 4294967296) (hk : kOf ws = 0) (hlen : ws.length = 2) (h1 : wAt ws 0 = pathB) :
  Calls Tryz.prog 22 #[v, u, vw] w (LiPost (ansW l ops ws) w) := by
 obtain ⟨W1, hW1⟩ : ∃ W1, W1 = w.alloc (.cells #[.string ⟨#[112, 117, 116]⟩, .string ⟨#[103, 101, 116]⟩, .string ⟨#[99, 117, 116]⟩, .string ⟨#[110, 101, 120, 116]⟩, .string ⟨#[112, 114, 101, 118]⟩, .string ⟨#[99, 111, 117, 110, 116]⟩, .string ⟨#[110, 116, 104]⟩] 9) := ⟨_, rfl⟩
 have hk1 : Kp w W1 := by rw [hW1]; exact (Kp.refl w).alloc
 have hb1 : RD W1 eStr (.slice (some ⟨w.heap.size, 0, none⟩) 7 7) kindsB := by rw [hW1]; exact RD.block (l := kindsB) (heap_alloc_new w _) rfl (by simp [kindsB, maxLen])
 obtain ⟨A, c, rfl, hc, hcm⟩ := hw.shape
 obtain ⟨b, o, rfl, _, x0⟩ := hw.str (k := 0) (List.length_pos_iff.2 h0)
 rw [Nat.add_zero] at x0
 have hl0 : 0 < ws.length := List.length_pos_iff.2 h0
 have hl0i : (0 : Int) < (ws.length : Int) := by omega
 have d0 : decide (0 < ws.length) = true := decide_eq_true hl0
 obtain ⟨s0, hs0⟩ : ∃ s0, s0 = ws[0] := ⟨_, rfl⟩
 have hse : ws.getD 0 ByteArray.empty = ws[0] := by simp [List.getD_eq_getElem?_getD, List.getElem?_eq_getElem hl0]
 obtain ⟨K, hK⟩ : ∃ K : Int, K = kOf ws := ⟨_, rfl⟩
 have hk' : kindOf s0 = K := by rw [hs0, <- hse, hK, kOf]
 have hw0 : s0.toList = wAt ws 0 := by rw [ByteArray.toList_eq, hs0, wAt, hse]
 have hK7 : 0 <= K /\ K <= 7 := by rw [<- hk']; exact kind_in s0
 rw [<- hs0] at x0
 have x1 := hk1.cell x0
 rw [hW1] at x1
 have HX0 := hide (hk1.cell x0)
 have HI : Hid (Calls Tryz.prog 46 #[.slice (some ⟨w.heap.size, 0, none⟩) 7 7, .string s0] W1 (fun e w' => e = .returned (.int .i64 (K - 1)) /\ w' = W1)) := hide (by
  have := idx_any s0 W1 w.heap.size hb1
  rwa [hk'] at this)
 obtain ⟨ix, hix⟩ : ∃ ix : Int, ix = K - 1 := ⟨_, rfl⟩
 rw [<- hix] at HI
 have HIX := hide hix
 obtain ⟨A1, hA1⟩ : ∃ A1, (if c = 1 then some (⟨b, o, none⟩ : Addr) else some ⟨b, o + 1, none⟩) = A1 := ⟨_, rfl⟩
 have HRD1 : Hid (RD W1 eStr (.slice A1 (ws.length - 1) (c - 1)) (ws.drop 1)) := hide ((hw.kp hk1).dropS (by omega) (s := 1) rfl (by rw [Nat.mul_one]; exact hA1))
 have HL := hide (hl.kp hk1)
 have HOP := hide (ho.kp hk1)
 have HW := hide (hw.kp hk1)
 have HK1 := hide hk1
 have HKK := hide hK
 obtain ⟨Al, cl, rfl, _, _⟩ := hl.shape
 obtain ⟨Ao, co, rfl, _, _⟩ := ho.shape
 have HIN := hide hin
 have HWS := hide (And.intro hss hne)
 rw [<- hK] at hk
 clear hb1 hse hk' hs0 hl ho hw hK x0 hk1 hin hss hne hix
 obtain rfl : K = 0 := hk
 obtain rfl : ix = -1 := by have := HIX.out; omega
 have HA0 : Hid (ansW l ops ws = (l, ops, match lineS (l.map Prod.fst) ops ws with | .ok s => s | .error e => errB e)) := hide (by rw [ansW, if_neg (by rw [<- HKK.out]; omega)]; rfl)
 have HKL : Hid (l.length <= 200) := hide (mapRight_len l HIN.out.right)
 have HKR : Hid (krL (l.map Prod.fst) = 0) := hide (by rw [<- HIN.out.run]; exact runL_keys ops)
 have HMK := hide (fun v W h => mapKeys_any l v W h (by have := HKL.out; omega))
 obtain ⟨_, _, e1, _, y1⟩ := HW.out.str (k := 1) (by omega)
 injection e1 with e1
 injection e1 with e1 e2
 subst e1 e2
 obtain ⟨s1, hs1⟩ : ∃ s1, s1 = ws[1] := ⟨_, rfl⟩
 rw [<- hs1] at y1
 have hw1 : s1.data.toList = wAt ws 1 := by
  rw [hs1, wAt]
  simp [List.getD_eq_getElem?_getD, List.getElem?_eq_getElem (show 1 < ws.length by omega)]
 have hss1 : s1.size <= 9223372036854775807 := HWS.out.1 s1 (by rw [hs1]; exact List.getElem_mem _)
 have HY := hide y1
 have bl2 : ((ws.length : Int) == 2) = true := beq_iff_eq.2 (by omega)
 have hl1i : (1 : Int) < (ws.length : Int) := by omega
 have d1i : decide ((1 : Int) < (ws.length : Int)) = true := decide_eq_true hl1i
 have bl1 : ((ws.length : Int) == 1) = false := beq_eq_false_iff_ne.2 (by omega)
 have hnr : ¬ (wAt ws 0 = rowsB /\ ws.length = 1) := fun e => by omega
 have hn2 : ¬ ws.length ≠ 2 := fun e => e hlen
 have b0 : (s0.toList == [114, 111, 119, 115]) = false := beq_eq_false_iff_ne.2 (fun e => by rw [hw0, h1] at e; exact absurd e (by decide))
 have b1 : (s0.toList == [112, 97, 116, 104]) = true := beq_iff_eq.2 (hw0.trans h1)
 have HLS : Hid (lineS (l.map Prod.fst) ops ws = match numF (wAt ws 1) with | none => .error 1 | some n => pathS (l.map Prod.fst) n) := hide (by rw [lineS, if_neg hnr, if_neg hn2, if_pos h1]; rfl)
 have hd1 : ws.drop 1 = [s1] := by
  rw [hs1]
  match ws, hlen with
  | [a, b], _ => rfl
 have HNM := hide (fun W (k : Kp W1 W) => numbersOf_any (ws.drop 1) _ W (HRD1.out.kp k) (by rw [List.length_drop]; omega) (fun s hs => HWS.out.1 s (List.mem_of_mem_drop hs)))
 have hnf := numF_ok (HWS.out.2 s1 (by rw [hs1]; exact List.getElem_mem _))
 have HNV := hide (wV_num (HWS.out.2 s1 (by rw [hs1]; exact List.getElem_mem _)))
 rw [hw1] at hnf
 rw [hnf] at HLS
 rw [hd1] at HNM
 have HL2 := hide hlen
 have HKS := hide (show (krL (l.map Prod.fst) = 0 -> ∀ n, pathS (l.map Prod.fst) n = if 0 <= n /\ n <= 1000000 then .ok (wordsF ((stAll (l.map Prod.fst) n 12).1.map Prod.snd) noneB) else .error 1) from fun h n => by
  rw [pathS, pathOf, if_pos h]
  split
  ·rfl
  ·rfl)
 have HST := hide (fun n v W h a b => stopsR_any (l.map Prod.fst) n v W h HKR.out a b)
 have HPI := hide (fun n => path_in (l.map Prod.fst) n)
 have HSI := hide (show ∀ n, 0 <= n -> n <= 1000000 -> NN ((stAll (l.map Prod.fst) n 12).1.map Prod.snd) /\ (stAll (l.map Prod.fst) n 12).1.length <= 1000000 from fun n a b => by
  obtain ⟨q1, q2, q3⟩ := krL_in HKR.out
  refine ⟨fun x hx => ?_, ?_⟩
  ·have := q3 x ((seen_all q2 q3 12 (by omega) x).1 hx).1
   omega
  ·have := (stAll_in q3 n 12).2.2
   have : 12 * (l.map Prod.fst).length <= 12 * 200 := Nat.mul_le_mul_left _ q1
   omega)
 have HKR2 := HKR
 obtain ⟨ks, hks⟩ : ∃ ks, ks = l.map Prod.fst := ⟨_, rfl⟩
 rw [<- hks] at HLS HKS HST HMK HA0 HSI HKR2
 clear hw0 h1 hw1 hs1 hnr hn2 y1 hss1 hnf hd1 hks HPI hlen
 by_cases hok : wOk s1 = true
 ·rw [if_pos hok] at HLS
  rw [numsF, if_pos (by simp [hok])] at HNM
  have hnum := HNV.out hok
  unfold Num at hnum
  obtain ⟨n, hnn⟩ : ∃ n, n = wV s1 := ⟨_, rfl⟩
  rw [show List.map wV [s1] = [wV s1] from rfl, <- hnn] at HNM
  rw [<- hnn] at HLS hnum
  simp only at HLS
  clear hok hnn HNV
  by_cases hbig : 1000000 < n
  ·have dbg : decide ((1000000 : Int) < n) = true := decide_eq_true hbig
   have HA : Hid (ansW l ops ws = (l, ops, errB 1)) := hide (by rw [HA0.out, HLS.out, HKS.out HKR2.out, if_neg (by omega)])
   clear hbig hnum
   go_enter Tryz.func22, Tryz.ntmps22
   go_wp2_with fail
   rw [<- hW1]
   refine HI.out.mono ?_
   rintro e w1' ⟨rfl, hw1'⟩
   rw [hw1']
   clear x1 hw1' hW1
   go_wp2_with fail
   refine (HMK.out _ _ HL.out).mono ?_
   rintro e w2 ⟨v2, rfl, ho2, hb2⟩
   have hk2 := Kp.of hb2
   have HR2 := hide ho2.rd
   obtain ⟨A2, n2, c2, rfl⟩ := ho2.rd.slice
   have x2 := hk2.cell HX0.out
   clear ho2 hb2
   go_wp2_with fail
   refine (HNM.out _ hk2).mono ?_
   rintro e w3 ⟨⟨v3, rfl, hr3⟩, hk3⟩
   obtain ⟨A3, c3, rfl, hc3, _⟩ := hr3.shape
   obtain ⟨bx, ox, rfl, _, y0⟩ := hr3.int (k := 0) (by simp)
   simp only [List.getElem_cons_zero, Nat.add_zero, List.length_cons, List.length_nil, Nat.reduceAdd] at y0 ⊢
   clear hr3
   have hk13 := hk2.trans hk3
   go_wp2
   go_ret3
   exact ⟨_, _, by rw [HA.out, errB_one]; rfl, by rw [HA.out]; exact HL.out.kp hk13, by rw [HA.out]; exact HOP.out.kp hk13, HK1.out.trans hk13⟩
  ·have dbg : decide ((1000000 : Int) < n) = false := decide_eq_false hbig
   have HS1 := hide (HST.out n)
   obtain ⟨ps, hps⟩ : ∃ ps, ps = (stAll ks n 12).1 := ⟨_, rfl⟩
   have HA : Hid (ansW l ops ws = (l, ops, wordsF (ps.map Prod.snd) noneB)) := hide (by rw [HA0.out, HLS.out, HKS.out HKR2.out, if_pos (by omega), hps])
   have HNP : Hid (NN (ps.map Prod.snd) /\ ps.length <= 1000000) := hide (by rw [hps]; exact HSI.out n (by omega) (by omega))
   rw [<- hps] at HS1
   have hn0 : 0 <= n := hnum.1
   have hn1 : n <= 1000000 := by omega
   have HS2 := hide (fun v W h => HS1.out v W h hn0 hn1)
   clear hbig hnum hps HS1
   go_enter Tryz.func22, Tryz.ntmps22
   go_wp2_with fail
   rw [<- hW1]
   refine HI.out.mono ?_
   rintro e w1' ⟨rfl, hw1'⟩
   rw [hw1']
   clear x1 hw1' hW1
   go_wp2_with fail
   refine (HMK.out _ _ HL.out).mono ?_
   rintro e w2 ⟨v2, rfl, ho2, hb2⟩
   have hk2 := Kp.of hb2
   have HR2 := hide ho2.rd
   obtain ⟨A2, n2, c2, rfl⟩ := ho2.rd.slice
   have x2 := hk2.cell HX0.out
   clear ho2 hb2
   go_wp2_with fail
   refine (HNM.out _ hk2).mono ?_
   rintro e w3 ⟨⟨v3, rfl, hr3⟩, hk3⟩
   obtain ⟨A3, c3, rfl, hc3, _⟩ := hr3.shape
   obtain ⟨bx, ox, rfl, _, y0⟩ := hr3.int (k := 0) (by simp)
   simp only [List.getElem_cons_zero, Nat.add_zero, List.length_cons, List.length_nil, Nat.reduceAdd] at y0 ⊢
   clear hr3
   go_wp2_with fail
   refine (HS2.out _ _ (HR2.out.kp hk3)).mono ?_
   rintro e w4 ⟨v4, rfl, hr4, hb4⟩
   obtain ⟨A4, c4, rfl, hc4, _⟩ := hr4.shape
   have HR4 := hide hr4
   have hk14 := (hk2.trans hk3).trans (Kp.of hb4)
   clear hr4 hb4 y0
   go_wp2
   go_loopw [25, 196] (LpRel ps w4) (fun _ i _ => ps.length - (intOf i).toNat)
   case atStart => exact ⟨0, by omega, rfl, OW.nil, Kp.refl _⟩
   case round =>
    obtain ⟨k, hk, rfl, ho, hkp⟩ := hrel
    have hi := ho.hi
    have HO := hide ho
    obtain ⟨u', hu'⟩ : ∃ u', u' = u25 := ⟨_, rfl⟩
    by_cases hlt : k < ps.length
    ·obtain ⟨b, o, rfl, _, z0, z1⟩ := (HR4.out.kp hkp).pair hlt
     obtain ⟨y, hy⟩ : ∃ y, y = ps[k].2 := ⟨_, rfl⟩
     rw [<- hy] at z1
     have HN : Hid ((ps.take k).map Prod.snd ++ [y] = (ps.take (k + 1)).map Prod.snd) := hide (by rw [List.take_succ_eq_append_getElem hlt, List.map_append, hy]; rfl)
     have HM1 : Hid ((((ps.take k).map Prod.snd).length + [y].length) * 8 <= 140737488355328) := hide (by have := HNP.out.2; simp; omega)
     have HM2 : Hid (((ps.take k).map Prod.snd).length + [y].length <= maxLen) := hide (by have := HNP.out.2; simp [maxLen]; omega)
     clear hy ho hu'
     go_wp2_with (at_builtin; (with_reducible refine list_app (B := w4.heap.size) (l := (ps.take k).map Prod.snd) (m := [y]) row_int u25 ?_ (.tmp 200) (.tmp 203) ?_ ?_ ?_ ?_ HM1.out HM2.out ?_ ?_); (with_reducible rfl); (with_reducible rfl); rfl; ((with_reducible apply OW.alloc); (with_reducible apply OW.alloc); exact HO.out); (show RD _ _ (.slice (some ⟨_, 0, none⟩) 1 1) _; (exact RD.auto)); (have := hkp.size; simp; omega); intro v6 w6 ho6 hg6 hat6)
     go_roundw
     case rel => exact ⟨k + 1, by omega, by go_num, by rw [<- HN.out]; exact ho6, Kp.app hg6 hkp.alloc.alloc hi⟩
     case measure => simp [intOf]; omega
    ·have hkl : Hid ((ps.take k).map Prod.snd = ps.map Prod.snd) := hide (by rw [List.take_of_length_le (by omega)])
     have hrd := HO.out.rd
     rw [hkl.out] at hrd
     have HW5 := hide (wordsOf_any (ps.map Prod.snd) u25 wr hrd (by rw [List.length_map]; exact HNP.out.2) HNP.out.1)
     clear ho hu' hrd hi hkl
     go_wp2_with fail
     refine HW5.out.mono ?_
     rintro e w5 ⟨rfl, hk5⟩
     have HK9 := hide (hk14.trans (hkp.trans hk5))
     go_wp2
     go_ret3
     exact ⟨_, _, by rw [HA.out]; rfl, by rw [HA.out]; exact HL.out.kp HK9.out, by rw [HA.out]; exact HOP.out.kp HK9.out, HK1.out.trans HK9.out⟩
 ·have hok0 : wOk s1 = false := by simpa using hok
  rw [if_neg hok] at HLS
  rw [numsF, if_neg (by simp [hok0])] at HNM
  simp only at HLS
  have HA : Hid (ansW l ops ws = (l, ops, errB 1)) := hide (by rw [HA0.out, HLS.out])
  clear hok hok0
  go_enter Tryz.func22, Tryz.ntmps22
  go_wp2_with fail
  rw [<- hW1]
  refine HI.out.mono ?_
  rintro e w1' ⟨rfl, hw1'⟩
  rw [hw1']
  clear x1 hw1' hW1
  go_wp2_with fail
  refine (HMK.out _ _ HL.out).mono ?_
  rintro e w2 ⟨v2, rfl, ho2, hb2⟩
  have hk2 := Kp.of hb2
  have HR2 := hide ho2.rd
  obtain ⟨A2, n2, c2, rfl⟩ := ho2.rd.slice
  have x2 := hk2.cell HX0.out
  clear ho2 hb2
  go_wp2_with fail
  refine (HNM.out _ hk2).mono ?_
  rintro e w3 ⟨rfl, hk3⟩
  have hk13 := hk2.trans hk3
  go_wp2
  go_ret3
  exact ⟨_, _, by rw [HA.out, errB_one]; rfl, by rw [HA.out]; exact HL.out.kp hk13, by rw [HA.out]; exact HOP.out.kp hk13, HK1.out.trans hk13⟩
end Go.Proofs.YtcljlnagpjilaaaGreatDoor
