/-
  hedgref.deskLine: tree, deep, and whatever is none: what it answers
-/
import Derived.Test.YtcljlnagpjilaaaGreatDoorG47

set_option linter.unusedVariables false
set_option linter.unusedSimpArgs false
set_option maxRecDepth 100000
set_option maxHeartbeats 8000000
namespace Go.Proofs.YtcljlnagpjilaaaGreatDoor
open Go.ChangeShapes Go.WideShapes Go.ChangeAt Go.RowKit
theorem told1_walk {t : T} (h : (parOf (t.spots 0)).2 = 0) : NN (told1 t) /\ (told1 t).length <= 1000000 := by
 obtain ⟨h1, h2, _⟩ := parOf_len _ h
 have e := order_telD h
 rw [orderOf, if_neg (by rw [h]; decide), if_pos rfl] at e
 injection e with e
 rw [<- e]
 refine ⟨fun x hx => ?_, by rw [walkF_len]; omega⟩
 have := walk_in h2 x hx
 omega
structure LkT (ks : List Int) (ops : List O3) (s : By) (t : T) : Prop where
 tree : treeS ks ops s = .ok (t.spots 0)
 order : orderOf (t.spots 0) 1 = (told1 t, 0)
 sum : sumOf (t.spots 0) = (mostL (t.spots 0), allL (t.spots 0), 0)
 size : t.size <= 200
 nn : NN (told1 t) /\ (told1 t).length <= 1000000
 deep : ∀ p ∈ t.spots 0, 0 <= p.2 /\ p.2 < 200
theorem link_some {l : List IP} {ops : List O3} (h : DkIn l ops) (hn : ops.length <= 300) {s : By} {t : T} (ht : refT (l.map Prod.fst) ops s = some t) : LkT (l.map Prod.fst) ops s t := by
 have := tree_link h hn s
 rw [ht] at this
 obtain ⟨h1, h2⟩ := this
 exact ⟨h1, order_telD h2, sum_told h2, spots_size h2, told1_walk h2, fun p hp => by
  obtain ⟨k, hk, rfl⟩ := List.mem_iff_getElem.1 hp
  exact gv_bound _ h2 k hk⟩
theorem link_none {l : List IP} {ops : List O3} (h : DkIn l ops) (hn : ops.length <= 300) {s : By} (ht : refT (l.map Prod.fst) ops s = none) : treeS (l.map Prod.fst) ops s = .error 1 := by
 have := tree_link h hn s
 rwa [ht] at this
theorem line_tree {ks : List Int} {ops : List O3} {ws : List ByteArray} {t : T} (h : LkT ks ops (wAt ws 1) t) (hn2 : ¬ ws.length ≠ 2) (h1 : wAt ws 0 = treeB) : lineS ks ops ws = .ok (wordsF (told1 t) noneB) := by
 rw [lineS, if_neg (fun e => hn2 (fun e2 => by omega)), if_neg hn2, if_neg (by rw [h1]; decide), if_pos h1, h.tree]
 simp only
 rw [h.order, if_pos rfl]
theorem line_deep {ks : List Int} {ops : List O3} {ws : List ByteArray} {t : T} (h : LkT ks ops (wAt ws 1) t) (hn2 : ¬ ws.length ≠ 2) (h1 : wAt ws 0 = deepB) : lineS ks ops ws = .ok (if mostL (t.spots 0) < 0 then noneB else Lib.itoa (mostL (t.spots 0))) := by
 rw [lineS, if_neg (fun e => hn2 (fun e2 => by omega)), if_neg hn2, if_neg (by rw [h1]; decide), if_neg (by rw [h1]; decide), if_pos h1, h.tree]
 simp only
 rw [h.sum, if_pos rfl]
theorem line_no {ks : List Int} {ops : List O3} {ws : List ByteArray} (hn2 : ¬ ws.length ≠ 2) (hp : wAt ws 0 ≠ pathB) (h : (wAt ws 0 ≠ treeB /\ wAt ws 0 ≠ deepB) ∨ treeS ks ops (wAt ws 1) = .error 1) : lineS ks ops ws = .error 1 := by
 rw [lineS, if_neg (fun e => hn2 (fun e2 => by omega)), if_neg hn2, if_neg hp]
 rcases h with ⟨h1, h2⟩ | h
 ·rw [if_neg h1, if_neg h2]
 ·split
  ·rw [h]
  ·split
   ·rw [h]
   ·rfl
theorem runL_lenA (ops : List O3) : (runL ops).2.length = ops.length := by
 have h := runL_len ops ops.length (Nat.le_refl _)
 rwa [List.take_length] at h
def LdRel (p : List IP) (w : World) (mv iv : Value) (wr : World) : Prop := ∃ k : Nat, k <= p.length /\ iv = .int .i64 k /\ mv = .int .i64 ((p.take k).foldl (fun m q => max m q.2) 0) /\ Kp w wr
theorem most0 (l : List IP) (h : ∀ p ∈ l, 0 <= p.2 /\ p.2 < 200) : 0 <= l.foldl (fun m q => max m q.2) 0 /\ l.foldl (fun m q => max m q.2) 0 < 200 := by
 have key : ∀ (l : List IP) (a : Int), 0 <= a -> a < 200 -> (∀ p ∈ l, 0 <= p.2 /\ p.2 < 200) -> 0 <= l.foldl (fun m p => max m p.2) a /\ l.foldl (fun m p => max m p.2) a < 200 := by
  intro l
  induction l with
  | nil => intro a h1 h2 _; exact ⟨h1, h2⟩
  | cons x l ih =>
   intro a h1 h2 h3
   have := h3 x List.mem_cons_self
   exact ih (max a x.2) (by omega) (by omega) fun p hp => h3 p (List.mem_cons_of_mem _ hp)
 exact key l 0 (by decide) (by decide) h
theorem most_eq {l : List IP} (h0 : l ≠ []) (h : ∀ p ∈ l, 0 <= p.2 /\ p.2 < 200) : l.foldl (fun m q => max m q.2) 0 = mostL l := by
 cases l with
 | nil => exact absurd rfl h0
 | cons a r =>
  have := h a List.mem_cons_self
  unfold mostL
  rw [List.foldl_cons, List.foldl_cons]
  congr 1
  omega
theorem li_tree (l : List IP) (ops : List O3) (ws : List ByteArray) (v u vw : Value) (w : World) (hl : RD w ePair v l) (ho : RD w eOp u ops) (hw : RD w eStr vw ws) (hin : DkIn l ops) (hn : ops.length <= 200)
  (hss : ∀ s ∈ ws, s.size <= 9223372036854775807) (hne : ∀ s ∈ ws, s ≠ ByteArray.empty) (h0 : ws ≠ []) (hwl : ws.length <= 4294967296) (hk : kOf ws = 0) (hlen : ws.length = 2) (h1 : wAt ws 0 = treeB) :
  Calls Tryz.prog 22 #[v, u, vw] w (LiPost (ansW l ops ws) w) := by
 obtain ⟨W1, hW1⟩ : ∃ W1, W1 = w.alloc (.cells #[.string ⟨#[112, 117, 116]⟩, .string ⟨#[103, 101, 116]⟩, .string ⟨#[99, 117, 116]⟩, .string ⟨#[110, 101, 120, 116]⟩, .string ⟨#[112, 114, 101, 118]⟩, .string ⟨#[99, 111, 117, 110, 116]⟩, .string ⟨#[110, 116, 104]⟩] 9) := ⟨_, rfl⟩
 have hk1 : Kp w W1 := by rw [hW1]; exact (Kp.refl w).alloc
 have hb1 : RD W1 eStr (.slice (some ⟨w.heap.size, 0, none⟩) 7 7) kindsB := by rw [hW1]; exact RD.block (l := kindsB) (heap_alloc_new w _) rfl (by simp [kindsB, maxLen])
 obtain ⟨A, c, rfl, hc, hcm⟩ := hw.shape
 obtain ⟨b, o, rfl, _, x0⟩ := hw.str (k := 0) (List.length_pos_iff.2 h0)
 rw [Nat.add_zero] at x0
 have hl0 : 0 < ws.length := List.length_pos_iff.2 h0
 have hl0i : (0 : Int) < (ws.length : Int) := by omega
 have d0 : decide (0 < ws.length) = true := decide_eq_true hl0
 obtain ⟨s0, hs0⟩ : ∃ s0, s0 = ws[0] := ⟨_, rfl⟩
 have hse : ws.getD 0 ByteArray.empty = ws[0] := by simp [List.getD_eq_getElem?_getD, List.getElem?_eq_getElem hl0]
 obtain ⟨K, hK⟩ : ∃ K : Int, K = kOf ws := ⟨_, rfl⟩
 have hk' : kindOf s0 = K := by rw [hs0, <- hse, hK, kOf]
 have hw0 : s0.toList = wAt ws 0 := by rw [ByteArray.toList_eq, hs0, wAt, hse]
 have hK7 : 0 <= K /\ K <= 7 := by rw [<- hk']; exact kind_in s0
 rw [<- hs0] at x0
 have x1 := hk1.cell x0
 rw [hW1] at x1
 have HX0 := hide (hk1.cell x0)
 have HI : Hid (Calls Tryz.prog 46 #[.slice (some ⟨w.heap.size, 0, none⟩) 7 7, .string s0] W1 (fun e w' => e = .returned (.int .i64 (K - 1)) /\ w' = W1)) := hide (by
  have := idx_any s0 W1 w.heap.size hb1
  rwa [hk'] at this)
 obtain ⟨ix, hix⟩ : ∃ ix : Int, ix = K - 1 := ⟨_, rfl⟩
 rw [<- hix] at HI
 have HIX := hide hix
 obtain ⟨A1, hA1⟩ : ∃ A1, (if c = 1 then some (⟨b, o, none⟩ : Addr) else some ⟨b, o + 1, none⟩) = A1 := ⟨_, rfl⟩
 have HRD1 : Hid (RD W1 eStr (.slice A1 (ws.length - 1) (c - 1)) (ws.drop 1)) := hide ((hw.kp hk1).dropS (by omega) (s := 1) rfl (by rw [Nat.mul_one]; exact hA1))
 have HL := hide (hl.kp hk1)
 have HOP := hide (ho.kp hk1)
 have HW := hide (hw.kp hk1)
 have HK1 := hide hk1
 have HKK := hide hK
 obtain ⟨Al, cl, rfl, _, _⟩ := hl.shape
 obtain ⟨Ao, co, rfl, _, _⟩ := ho.shape
 have HIN := hide hin
 have HWS := hide (And.intro hss hne)
 rw [<- hK] at hk
 clear hb1 hse hk' hs0 hl ho hw hK x0 hk1 hin hss hne hix
 obtain rfl : K = 0 := hk
 obtain rfl : ix = -1 := by have := HIX.out; omega
 have HA0 : Hid (ansW l ops ws = (l, ops, match lineS (l.map Prod.fst) ops ws with | .ok s => s | .error e => errB e)) := hide (by rw [ansW, if_neg (by rw [<- HKK.out]; omega)]; rfl)
 have HKL : Hid (l.length <= 200) := hide (mapRight_len l HIN.out.right)
 have HKR : Hid (krL (l.map Prod.fst) = 0) := hide (by rw [<- HIN.out.run]; exact runL_keys ops)
 have HMK := hide (fun v W h => mapKeys_any l v W h (by have := HKL.out; omega))
 obtain ⟨_, _, e1, _, y1⟩ := HW.out.str (k := 1) (by omega)
 injection e1 with e1
 injection e1 with e1 e2
 subst e1 e2
 obtain ⟨s1, hs1⟩ : ∃ s1, s1 = ws[1] := ⟨_, rfl⟩
 rw [<- hs1] at y1
 have hw1 : s1.data.toList = wAt ws 1 := by
  rw [hs1, wAt]
  simp [List.getD_eq_getElem?_getD, List.getElem?_eq_getElem (show 1 < ws.length by omega)]
 have hss1 : s1.size <= 9223372036854775807 := HWS.out.1 s1 (by rw [hs1]; exact List.getElem_mem _)
 have HY := hide y1
 have bl2 : ((ws.length : Int) == 2) = true := beq_iff_eq.2 (by omega)
 have hl1i : (1 : Int) < (ws.length : Int) := by omega
 have d1i : decide ((1 : Int) < (ws.length : Int)) = true := decide_eq_true hl1i
 have bl1 : ((ws.length : Int) == 1) = false := beq_eq_false_iff_ne.2 (by omega)
 have hnr : ¬ (wAt ws 0 = rowsB /\ ws.length = 1) := fun e => by omega
 have hn2 : ¬ ws.length ≠ 2 := fun e => e hlen
 have b0 : (s0.toList == [114, 111, 119, 115]) = false := beq_eq_false_iff_ne.2 (fun e => by rw [hw0, h1] at e; exact absurd e (by decide))
 have b1 : (s0.toList == [112, 97, 116, 104]) = false := beq_eq_false_iff_ne.2 (fun e => by rw [hw0, h1] at e; exact absurd e (by decide))
 have b2 : (s0.toList == [116, 114, 101, 101]) = true := beq_iff_eq.2 (hw0.trans h1)
 have HSOME := hide (fun t ht => line_tree (link_some HIN.out (by omega) (s := wAt ws 1) (t := t) ht) hn2 h1)
 have HLK := hide (fun t ht => link_some HIN.out (by omega) (s := wAt ws 1) (t := t) ht)
 have HNONE := hide (fun ht => line_no (ws := ws) hn2 (by rw [h1]; decide) (.inr (link_none HIN.out (by omega) (s := wAt ws 1) ht)))
 have hs1l : s1.toList = wAt ws 1 := by rw [ByteArray.toList_eq, hw1]
 have HAW := hide (fun v W h => answered_any ops v W h (by omega))
 have HGR := hide (fun v u W h a => grown_any ops (runL ops).2 v u W h a (runL_lenA ops))
 have HZT := hide (fun v W h => zipTree_any (l.map Prod.fst) v W h (by rw [List.length_map]; have := HKL.out; omega))
 have HGO := hide (fun v u W h a => goated_any ops (by omega) v u W h a)
 have HEV := hide (fun v W h => evenTree_any 1000000 (l.map Prod.fst) v W (by rw [List.length_map]; have := HKL.out; omega) (Nat.le_refl _) h)
 obtain ⟨s1w, hs1w⟩ : ∃ s1w, s1w = wAt ws 1 := ⟨_, rfl⟩
 rw [<- hs1w] at HNONE HLK HSOME hs1l
 obtain ⟨ks, hks⟩ : ∃ ks, ks = l.map Prod.fst := ⟨_, rfl⟩
 rw [<- hks] at HNONE HLK HSOME HZT HEV HMK HA0
 have HREF : Hid (∀ s, refT ks ops s = if s = growB then some (grT (ops.zip (runL ops).2)) else if s = zipB then some (heapTree (ks.map zk)) else if s = goatB then some (skel (gtT (opsZ ops)).T) else if s = evenB then some (skel (evenT ks)) else none) := hide (fun s => rfl)
 obtain ⟨RL, hRL⟩ : ∃ RL, RL = runL ops := ⟨_, rfl⟩
 rw [<- hRL] at HAW HGR HGO HREF
 obtain ⟨rl, ra⟩ := RL
 clear hs1w hks hRL
 clear hw0 h1 hw1 hs1 hnr hn2 y1 hss1 hlen
 by_cases g1 : s1w = growB
 ·have c1 : (s1.toList == [103, 114, 111, 119]) = true := beq_iff_eq.2 (hs1l.trans g1)
  obtain ⟨TT, hTT⟩ : ∃ TT, TT = grT (ops.zip ra) := ⟨_, rfl⟩
  have hrt : refT ks ops s1w = some TT := by rw [HREF.out, if_pos g1, hTT]
  have HL5 := hide (HLK.out TT hrt)
  have HS5 := hide (HSOME.out TT hrt)
  simp only at HGR
  rw [<- hTT] at HGR
  clear hTT hrt g1 hs1l
  go_enter Tryz.func22, Tryz.ntmps22
  go_wp2_with fail
  rw [<- hW1]
  refine HI.out.mono ?_
  rintro e w1' ⟨rfl, hw1'⟩
  rw [hw1']
  clear x1 hw1' hW1
  go_wp2_with fail
  refine (HMK.out _ _ HL.out).mono ?_
  rintro e w2 ⟨v2, rfl, ho2, hb2⟩
  have hk2 := Kp.of hb2
  have HR2 := hide ho2.rd
  obtain ⟨A2, n2, c2, rfl⟩ := ho2.rd.slice
  have x2 := hk2.cell HX0.out
  clear ho2 hb2
  go_wp2_with fail
  refine (HAW.out _ _ (HOP.out.kp hk2)).mono ?_
  rintro e w3 ⟨v3, u3, rfl, hr3, hu3, hb3⟩
  have hk3 := Kp.of hb3
  have hk13 := hk2.trans hk3
  have HRA := hide hu3
  have y3 := hk13.cell HY.out
  have x3 := hk13.cell HX0.out
  clear hr3 hu3 hb3
  go_wp2_with fail
  refine (HGR.out _ _ _ (HOP.out.kp hk13) HRA.out).mono ?_
  rintro e w4 ⟨pT, rfl, ht4, hb4⟩
  have hk4 := Kp.of hb4
  have HT4 := hide ht4
  clear ht4 hb4
  have HA : Hid (ansW l ops ws = (l, ops, wordsF (told1 TT) noneB)) := hide (by rw [HA0.out, HS5.out])
  have x4 := hk4.cell x3
  have hk14 := hk13.trans hk4
  have HSZ := hide (show TT.size <= 1073741824 by have := HL5.out.size; omega)
  have HNT := hide HL5.out.nn
  obtain ⟨TL, hTL⟩ : ∃ TL, TL = told1 TT := ⟨_, rfl⟩
  have HTD := hide (told1_any TT pT w4 HT4.out HSZ.out)
  rw [<- hTL] at HA HNT HTD
  clear hTL
  go_wp2_with fail
  refine HTD.out.mono ?_
  rintro e w5 ⟨v5, rfl, ho5, hb5⟩
  have hk5 := Kp.of hb5
  have HW5 := hide (wordsOf_any TL v5 w5 ho5.rd HNT.out.2 HNT.out.1)
  clear ho5 hb5
  go_wp2_with fail
  refine HW5.out.mono ?_
  rintro e w6 ⟨rfl, hk6⟩
  have HK9 := hide ((hk14.trans hk5).trans hk6)
  go_wp2
  go_ret3
  exact ⟨_, _, by rw [HA.out]; rfl, by rw [HA.out]; exact HL.out.kp HK9.out, by rw [HA.out]; exact HOP.out.kp HK9.out, HK1.out.trans HK9.out⟩
 ·have c1 : (s1.toList == [103, 114, 111, 119]) = false := beq_eq_false_iff_ne.2 (fun e => g1 (hs1l.symm.trans e))
  by_cases g2 : s1w = zipB
  ·have c2' : (s1.toList == [122, 105, 112]) = true := beq_iff_eq.2 (hs1l.trans g2)
   obtain ⟨TT, hTT⟩ : ∃ TT, TT = heapTree (ks.map zk) := ⟨_, rfl⟩
   have hrt : refT ks ops s1w = some TT := by rw [HREF.out, if_neg g1, if_pos g2, hTT]
   have HL5 := hide (HLK.out TT hrt)
   have HS5 := hide (HSOME.out TT hrt)
   rw [<- hTT] at HZT
   clear hTT hrt g1 g2 hs1l
   go_enter Tryz.func22, Tryz.ntmps22
   go_wp2_with fail
   rw [<- hW1]
   refine HI.out.mono ?_
   rintro e w1' ⟨rfl, hw1'⟩
   rw [hw1']
   clear x1 hw1' hW1
   go_wp2_with fail
   refine (HMK.out _ _ HL.out).mono ?_
   rintro e w2 ⟨v2, rfl, ho2, hb2⟩
   have hk2 := Kp.of hb2
   have HR2 := hide ho2.rd
   obtain ⟨A2, n2, c2, rfl⟩ := ho2.rd.slice
   have x2 := hk2.cell HX0.out
   clear ho2 hb2
   go_wp2_with fail
   refine (HAW.out _ _ (HOP.out.kp hk2)).mono ?_
   rintro e w3 ⟨v3, u3, rfl, hr3, hu3, hb3⟩
   have hk3 := Kp.of hb3
   have hk13 := hk2.trans hk3
   have HRA := hide hu3
   have y3 := hk13.cell HY.out
   have x3 := hk13.cell HX0.out
   clear hr3 hu3 hb3
   go_wp2_with fail
   refine (HZT.out _ _ (HR2.out.kp hk3)).mono ?_
   rintro e w4 ⟨pT, rfl, ht4, hb4⟩
   have hk4 := Kp.of hb4
   have HT4 := hide ht4
   clear ht4 hb4
   have HA : Hid (ansW l ops ws = (l, ops, wordsF (told1 TT) noneB)) := hide (by rw [HA0.out, HS5.out])
   have x4 := hk4.cell x3
   have hk14 := hk13.trans hk4
   have HSZ := hide (show TT.size <= 1073741824 by have := HL5.out.size; omega)
   have HNT := hide HL5.out.nn
   obtain ⟨TL, hTL⟩ : ∃ TL, TL = told1 TT := ⟨_, rfl⟩
   have HTD := hide (told1_any TT pT w4 HT4.out HSZ.out)
   rw [<- hTL] at HA HNT HTD
   clear hTL
   go_wp2_with fail
   refine HTD.out.mono ?_
   rintro e w5 ⟨v5, rfl, ho5, hb5⟩
   have hk5 := Kp.of hb5
   have HW5 := hide (wordsOf_any TL v5 w5 ho5.rd HNT.out.2 HNT.out.1)
   clear ho5 hb5
   go_wp2_with fail
   refine HW5.out.mono ?_
   rintro e w6 ⟨rfl, hk6⟩
   have HK9 := hide ((hk14.trans hk5).trans hk6)
   go_wp2
   go_ret3
   exact ⟨_, _, by rw [HA.out]; rfl, by rw [HA.out]; exact HL.out.kp HK9.out, by rw [HA.out]; exact HOP.out.kp HK9.out, HK1.out.trans HK9.out⟩
  ·have c2' : (s1.toList == [122, 105, 112]) = false := beq_eq_false_iff_ne.2 (fun e => g2 (hs1l.symm.trans e))
   by_cases g3 : s1w = goatB
   ·have c3' : (s1.toList == [103, 111, 97, 116]) = true := beq_iff_eq.2 (hs1l.trans g3)
    obtain ⟨S, hS⟩ : ∃ S, S = gtT (opsZ ops) := ⟨_, rfl⟩
    obtain ⟨TT, hTT⟩ : ∃ TT, TT = skel S.T := ⟨_, rfl⟩
    have hrt : refT ks ops s1w = some TT := by rw [HREF.out, if_neg g1, if_neg g2, if_pos g3, hTT, hS]
    have HL5 := hide (HLK.out TT hrt)
    have HS5 := hide (HSOME.out TT hrt)
    rw [<- hS] at HGO
    unfold GgdPost at HGO
    rw [<- hTT] at HGO
    clear hTT hrt g1 g2 g3 hs1l hS
    go_enter Tryz.func22, Tryz.ntmps22
    go_wp2_with fail
    rw [<- hW1]
    refine HI.out.mono ?_
    rintro e w1' ⟨rfl, hw1'⟩
    rw [hw1']
    clear x1 hw1' hW1
    go_wp2_with fail
    refine (HMK.out _ _ HL.out).mono ?_
    rintro e w2 ⟨v2, rfl, ho2, hb2⟩
    have hk2 := Kp.of hb2
    have HR2 := hide ho2.rd
    obtain ⟨A2, n2, c2, rfl⟩ := ho2.rd.slice
    have x2 := hk2.cell HX0.out
    clear ho2 hb2
    go_wp2_with fail
    refine (HAW.out _ _ (HOP.out.kp hk2)).mono ?_
    rintro e w3 ⟨v3, u3, rfl, hr3, hu3, hb3⟩
    have hk3 := Kp.of hb3
    have hk13 := hk2.trans hk3
    have HRA := hide hu3
    have y3 := hk13.cell HY.out
    have x3 := hk13.cell HX0.out
    clear hr3 hu3 hb3
    go_wp2_with fail
    refine (HGO.out _ _ _ (HOP.out.kp hk13) HRA.out).mono ?_
    rintro e w4 ⟨pT, rfl, ht4, hb4⟩
    have hk4 := Kp.of hb4
    have HT4 := hide ht4
    clear ht4 hb4
    have HA : Hid (ansW l ops ws = (l, ops, wordsF (told1 TT) noneB)) := hide (by rw [HA0.out, HS5.out])
    have x4 := hk4.cell x3
    have hk14 := hk13.trans hk4
    have HSZ := hide (show TT.size <= 1073741824 by have := HL5.out.size; omega)
    have HNT := hide HL5.out.nn
    obtain ⟨TL, hTL⟩ : ∃ TL, TL = told1 TT := ⟨_, rfl⟩
    have HTD := hide (told1_any TT pT w4 HT4.out HSZ.out)
    rw [<- hTL] at HA HNT HTD
    clear hTL
    go_wp2_with fail
    refine HTD.out.mono ?_
    rintro e w5 ⟨v5, rfl, ho5, hb5⟩
    have hk5 := Kp.of hb5
    have HW5 := hide (wordsOf_any TL v5 w5 ho5.rd HNT.out.2 HNT.out.1)
    clear ho5 hb5
    go_wp2_with fail
    refine HW5.out.mono ?_
    rintro e w6 ⟨rfl, hk6⟩
    have HK9 := hide ((hk14.trans hk5).trans hk6)
    go_wp2
    go_ret3
    exact ⟨_, _, by rw [HA.out]; rfl, by rw [HA.out]; exact HL.out.kp HK9.out, by rw [HA.out]; exact HOP.out.kp HK9.out, HK1.out.trans HK9.out⟩
   ·have c3' : (s1.toList == [103, 111, 97, 116]) = false := beq_eq_false_iff_ne.2 (fun e => g3 (hs1l.symm.trans e))
    by_cases g4 : s1w = evenB
    ·have c4' : (s1.toList == [101, 118, 101, 110]) = true := beq_iff_eq.2 (hs1l.trans g4)
     obtain ⟨TT, hTT⟩ : ∃ TT, TT = skel (evenT ks) := ⟨_, rfl⟩
     have hrt : refT ks ops s1w = some TT := by rw [HREF.out, if_neg g1, if_neg g2, if_neg g3, if_pos g4, hTT]
     have HL5 := hide (HLK.out TT hrt)
     have HS5 := hide (HSOME.out TT hrt)
     rw [<- hTT] at HEV
     clear hTT hrt g1 g2 g3 g4 hs1l
     go_enter Tryz.func22, Tryz.ntmps22
     go_wp2_with fail
     rw [<- hW1]
     refine HI.out.mono ?_
     rintro e w1' ⟨rfl, hw1'⟩
     rw [hw1']
     clear x1 hw1' hW1
     go_wp2_with fail
     refine (HMK.out _ _ HL.out).mono ?_
     rintro e w2 ⟨v2, rfl, ho2, hb2⟩
     have hk2 := Kp.of hb2
     have HR2 := hide ho2.rd
     obtain ⟨A2, n2, c2, rfl⟩ := ho2.rd.slice
     have x2 := hk2.cell HX0.out
     clear ho2 hb2
     go_wp2_with fail
     refine (HAW.out _ _ (HOP.out.kp hk2)).mono ?_
     rintro e w3 ⟨v3, u3, rfl, hr3, hu3, hb3⟩
     have hk3 := Kp.of hb3
     have hk13 := hk2.trans hk3
     have HRA := hide hu3
     have y3 := hk13.cell HY.out
     have x3 := hk13.cell HX0.out
     clear hr3 hu3 hb3
     go_wp2_with fail
     refine (HEV.out _ _ (HR2.out.kp hk3)).mono ?_
     rintro e w4 ⟨pT, rfl, ht4, hb4⟩
     have hk4 := Kp.of hb4
     have HT4 := hide ht4
     clear ht4 hb4
     have HA : Hid (ansW l ops ws = (l, ops, wordsF (told1 TT) noneB)) := hide (by rw [HA0.out, HS5.out])
     have x4 := hk4.cell x3
     have hk14 := hk13.trans hk4
     have HSZ := hide (show TT.size <= 1073741824 by have := HL5.out.size; omega)
     have HNT := hide HL5.out.nn
     obtain ⟨TL, hTL⟩ : ∃ TL, TL = told1 TT := ⟨_, rfl⟩
     have HTD := hide (told1_any TT pT w4 HT4.out HSZ.out)
     rw [<- hTL] at HA HNT HTD
     clear hTL
     go_wp2_with fail
     refine HTD.out.mono ?_
     rintro e w5 ⟨v5, rfl, ho5, hb5⟩
     have hk5 := Kp.of hb5
     have HW5 := hide (wordsOf_any TL v5 w5 ho5.rd HNT.out.2 HNT.out.1)
     clear ho5 hb5
     go_wp2_with fail
     refine HW5.out.mono ?_
     rintro e w6 ⟨rfl, hk6⟩
     have HK9 := hide ((hk14.trans hk5).trans hk6)
     go_wp2
     go_ret3
     exact ⟨_, _, by rw [HA.out]; rfl, by rw [HA.out]; exact HL.out.kp HK9.out, by rw [HA.out]; exact HOP.out.kp HK9.out, HK1.out.trans HK9.out⟩
    ·have c4' : (s1.toList == [101, 118, 101, 110]) = false := beq_eq_false_iff_ne.2 (fun e => g4 (hs1l.symm.trans e))
     have hrt : refT ks ops s1w = none := by rw [HREF.out, if_neg g1, if_neg g2, if_neg g3, if_neg g4]
     have HA : Hid (ansW l ops ws = (l, ops, errB 1)) := hide (by rw [HA0.out, HNONE.out hrt])
     clear hrt g1 g2 g3 g4 hs1l
     go_enter Tryz.func22, Tryz.ntmps22
     go_wp2_with fail
     rw [<- hW1]
     refine HI.out.mono ?_
     rintro e w1' ⟨rfl, hw1'⟩
     rw [hw1']
     clear x1 hw1' hW1
     go_wp2_with fail
     refine (HMK.out _ _ HL.out).mono ?_
     rintro e w2 ⟨v2, rfl, ho2, hb2⟩
     have hk2 := Kp.of hb2
     have HR2 := hide ho2.rd
     obtain ⟨A2, n2, c2, rfl⟩ := ho2.rd.slice
     have x2 := hk2.cell HX0.out
     clear ho2 hb2
     go_wp2_with fail
     refine (HAW.out _ _ (HOP.out.kp hk2)).mono ?_
     rintro e w3 ⟨v3, u3, rfl, hr3, hu3, hb3⟩
     have hk3 := Kp.of hb3
     have hk13 := hk2.trans hk3
     have HRA := hide hu3
     have y3 := hk13.cell HY.out
     have x3 := hk13.cell HX0.out
     clear hr3 hu3 hb3
     go_wp2_with fail
     go_wp2
     go_ret3
     exact ⟨_, _, by rw [HA.out, errB_one]; rfl, by rw [HA.out]; exact HL.out.kp hk13, by rw [HA.out]; exact HOP.out.kp hk13, HK1.out.trans hk13⟩
theorem li_deep (l : List IP) (ops : List O3) (ws : List ByteArray) (v u vw : Value) (w : World) (hl : RD w ePair v l) (ho : RD w eOp u ops) (hw : RD w eStr vw ws) (hin : DkIn l ops) (hn : ops.length <= 200)
  (hss : ∀ s ∈ ws, s.size <= 9223372036854775807) (hne : ∀ s ∈ ws, s ≠ ByteArray.empty) (h0 : ws ≠ []) (hwl : ws.length <= 4294967296) (hk : kOf ws = 0) (hlen : ws.length = 2) (h1 : wAt ws 0 = deepB) :
  Calls Tryz.prog 22 #[v, u, vw] w (LiPost (ansW l ops ws) w) := by
 obtain ⟨W1, hW1⟩ : ∃ W1, W1 = w.alloc (.cells #[.string ⟨#[112, 117, 116]⟩, .string ⟨#[103, 101, 116]⟩, .string ⟨#[99, 117, 116]⟩, .string ⟨#[110, 101, 120, 116]⟩, .string ⟨#[112, 114, 101, 118]⟩, .string ⟨#[99, 111, 117, 110, 116]⟩, .string ⟨#[110, 116, 104]⟩] 9) := ⟨_, rfl⟩
 have hk1 : Kp w W1 := by rw [hW1]; exact (Kp.refl w).alloc
 have hb1 : RD W1 eStr (.slice (some ⟨w.heap.size, 0, none⟩) 7 7) kindsB := by rw [hW1]; exact RD.block (l := kindsB) (heap_alloc_new w _) rfl (by simp [kindsB, maxLen])
 obtain ⟨A, c, rfl, hc, hcm⟩ := hw.shape
 obtain ⟨b, o, rfl, _, x0⟩ := hw.str (k := 0) (List.length_pos_iff.2 h0)
 rw [Nat.add_zero] at x0
 have hl0 : 0 < ws.length := List.length_pos_iff.2 h0
 have hl0i : (0 : Int) < (ws.length : Int) := by omega
 have d0 : decide (0 < ws.length) = true := decide_eq_true hl0
 obtain ⟨s0, hs0⟩ : ∃ s0, s0 = ws[0] := ⟨_, rfl⟩
 have hse : ws.getD 0 ByteArray.empty = ws[0] := by simp [List.getD_eq_getElem?_getD, List.getElem?_eq_getElem hl0]
 obtain ⟨K, hK⟩ : ∃ K : Int, K = kOf ws := ⟨_, rfl⟩
 have hk' : kindOf s0 = K := by rw [hs0, <- hse, hK, kOf]
 have hw0 : s0.toList = wAt ws 0 := by rw [ByteArray.toList_eq, hs0, wAt, hse]
 have hK7 : 0 <= K /\ K <= 7 := by rw [<- hk']; exact kind_in s0
 rw [<- hs0] at x0
 have x1 := hk1.cell x0
 rw [hW1] at x1
 have HX0 := hide (hk1.cell x0)
 have HI : Hid (Calls Tryz.prog 46 #[.slice (some ⟨w.heap.size, 0, none⟩) 7 7, .string s0] W1 (fun e w' => e = .returned (.int .i64 (K - 1)) /\ w' = W1)) := hide (by
  have := idx_any s0 W1 w.heap.size hb1
  rwa [hk'] at this)
 obtain ⟨ix, hix⟩ : ∃ ix : Int, ix = K - 1 := ⟨_, rfl⟩
 rw [<- hix] at HI
 have HIX := hide hix
 obtain ⟨A1, hA1⟩ : ∃ A1, (if c = 1 then some (⟨b, o, none⟩ : Addr) else some ⟨b, o + 1, none⟩) = A1 := ⟨_, rfl⟩
 have HRD1 : Hid (RD W1 eStr (.slice A1 (ws.length - 1) (c - 1)) (ws.drop 1)) := hide ((hw.kp hk1).dropS (by omega) (s := 1) rfl (by rw [Nat.mul_one]; exact hA1))
 have HL := hide (hl.kp hk1)
 have HOP := hide (ho.kp hk1)
 have HW := hide (hw.kp hk1)
 have HK1 := hide hk1
 have HKK := hide hK
 obtain ⟨Al, cl, rfl, _, _⟩ := hl.shape
 obtain ⟨Ao, co, rfl, _, _⟩ := ho.shape
 have HIN := hide hin
 have HWS := hide (And.intro hss hne)
 rw [<- hK] at hk
 clear hb1 hse hk' hs0 hl ho hw hK x0 hk1 hin hss hne hix
 obtain rfl : K = 0 := hk
 obtain rfl : ix = -1 := by have := HIX.out; omega
 have HA0 : Hid (ansW l ops ws = (l, ops, match lineS (l.map Prod.fst) ops ws with | .ok s => s | .error e => errB e)) := hide (by rw [ansW, if_neg (by rw [<- HKK.out]; omega)]; rfl)
 have HKL : Hid (l.length <= 200) := hide (mapRight_len l HIN.out.right)
 have HKR : Hid (krL (l.map Prod.fst) = 0) := hide (by rw [<- HIN.out.run]; exact runL_keys ops)
 have HMK := hide (fun v W h => mapKeys_any l v W h (by have := HKL.out; omega))
 obtain ⟨_, _, e1, _, y1⟩ := HW.out.str (k := 1) (by omega)
 injection e1 with e1
 injection e1 with e1 e2
 subst e1 e2
 obtain ⟨s1, hs1⟩ : ∃ s1, s1 = ws[1] := ⟨_, rfl⟩
 rw [<- hs1] at y1
 have hw1 : s1.data.toList = wAt ws 1 := by
  rw [hs1, wAt]
  simp [List.getD_eq_getElem?_getD, List.getElem?_eq_getElem (show 1 < ws.length by omega)]
 have hss1 : s1.size <= 9223372036854775807 := HWS.out.1 s1 (by rw [hs1]; exact List.getElem_mem _)
 have HY := hide y1
 have bl2 : ((ws.length : Int) == 2) = true := beq_iff_eq.2 (by omega)
 have hl1i : (1 : Int) < (ws.length : Int) := by omega
 have d1i : decide ((1 : Int) < (ws.length : Int)) = true := decide_eq_true hl1i
 have bl1 : ((ws.length : Int) == 1) = false := beq_eq_false_iff_ne.2 (by omega)
 have hnr : ¬ (wAt ws 0 = rowsB /\ ws.length = 1) := fun e => by omega
 have hn2 : ¬ ws.length ≠ 2 := fun e => e hlen
 have b0 : (s0.toList == [114, 111, 119, 115]) = false := beq_eq_false_iff_ne.2 (fun e => by rw [hw0, h1] at e; exact absurd e (by decide))
 have b1 : (s0.toList == [112, 97, 116, 104]) = false := beq_eq_false_iff_ne.2 (fun e => by rw [hw0, h1] at e; exact absurd e (by decide))
 have b2 : (s0.toList == [116, 114, 101, 101]) = false := beq_eq_false_iff_ne.2 (fun e => by rw [hw0, h1] at e; exact absurd e (by decide))
 have b3 : (s0.toList == [100, 101, 101, 112]) = true := beq_iff_eq.2 (hw0.trans h1)
 have HSOME := hide (fun t ht => line_deep (link_some HIN.out (by omega) (s := wAt ws 1) (t := t) ht) hn2 h1)
 have HLK := hide (fun t ht => link_some HIN.out (by omega) (s := wAt ws 1) (t := t) ht)
 have HNONE := hide (fun ht => line_no (ws := ws) hn2 (by rw [h1]; decide) (.inr (link_none HIN.out (by omega) (s := wAt ws 1) ht)))
 have hs1l : s1.toList = wAt ws 1 := by rw [ByteArray.toList_eq, hw1]
 have HAW := hide (fun v W h => answered_any ops v W h (by omega))
 have HGR := hide (fun v u W h a => grown_any ops (runL ops).2 v u W h a (runL_lenA ops))
 have HZT := hide (fun v W h => zipTree_any (l.map Prod.fst) v W h (by rw [List.length_map]; have := HKL.out; omega))
 have HGO := hide (fun v u W h a => goated_any ops (by omega) v u W h a)
 have HEV := hide (fun v W h => evenTree_any 1000000 (l.map Prod.fst) v W (by rw [List.length_map]; have := HKL.out; omega) (Nat.le_refl _) h)
 obtain ⟨s1w, hs1w⟩ : ∃ s1w, s1w = wAt ws 1 := ⟨_, rfl⟩
 rw [<- hs1w] at HNONE HLK HSOME hs1l
 obtain ⟨ks, hks⟩ : ∃ ks, ks = l.map Prod.fst := ⟨_, rfl⟩
 rw [<- hks] at HNONE HLK HSOME HZT HEV HMK HA0
 have HREF : Hid (∀ s, refT ks ops s = if s = growB then some (grT (ops.zip (runL ops).2)) else if s = zipB then some (heapTree (ks.map zk)) else if s = goatB then some (skel (gtT (opsZ ops)).T) else if s = evenB then some (skel (evenT ks)) else none) := hide (fun s => rfl)
 obtain ⟨RL, hRL⟩ : ∃ RL, RL = runL ops := ⟨_, rfl⟩
 rw [<- hRL] at HAW HGR HGO HREF
 obtain ⟨rl, ra⟩ := RL
 clear hs1w hks hRL
 clear hw0 h1 hw1 hs1 hnr hn2 y1 hss1 hlen
 by_cases g1 : s1w = growB
 ·have c1 : (s1.toList == [103, 114, 111, 119]) = true := beq_iff_eq.2 (hs1l.trans g1)
  obtain ⟨TT, hTT⟩ : ∃ TT, TT = grT (ops.zip ra) := ⟨_, rfl⟩
  have hrt : refT ks ops s1w = some TT := by rw [HREF.out, if_pos g1, hTT]
  have HL5 := hide (HLK.out TT hrt)
  have HS5 := hide (HSOME.out TT hrt)
  simp only at HGR
  rw [<- hTT] at HGR
  clear hTT hrt g1 hs1l
  go_enter Tryz.func22, Tryz.ntmps22
  go_wp2_with fail
  rw [<- hW1]
  refine HI.out.mono ?_
  rintro e w1' ⟨rfl, hw1'⟩
  rw [hw1']
  clear x1 hw1' hW1
  go_wp2_with fail
  refine (HMK.out _ _ HL.out).mono ?_
  rintro e w2 ⟨v2, rfl, ho2, hb2⟩
  have hk2 := Kp.of hb2
  have HR2 := hide ho2.rd
  obtain ⟨A2, n2, c2, rfl⟩ := ho2.rd.slice
  have x2 := hk2.cell HX0.out
  clear ho2 hb2
  go_wp2_with fail
  refine (HAW.out _ _ (HOP.out.kp hk2)).mono ?_
  rintro e w3 ⟨v3, u3, rfl, hr3, hu3, hb3⟩
  have hk3 := Kp.of hb3
  have hk13 := hk2.trans hk3
  have HRA := hide hu3
  have y3 := hk13.cell HY.out
  have x3 := hk13.cell HX0.out
  clear hr3 hu3 hb3
  go_wp2_with fail
  refine (HGR.out _ _ _ (HOP.out.kp hk13) HRA.out).mono ?_
  rintro e w4 ⟨pT, rfl, ht4, hb4⟩
  have hk4 := Kp.of hb4
  have HT4 := hide ht4
  clear ht4 hb4
  have x4 := hk4.cell x3
  have hk14 := hk13.trans hk4
  have HSZ := hide (show (0 : Int) + TT.size <= 1073741824 by have := HL5.out.size; omega)
  have HDP := hide HL5.out.deep
  cases TT with
  | nil =>
   have hp : pT = none := HT4.out
   subst hp
   have HA : Hid (ansW l ops ws = (l, ops, noneB)) := hide (by rw [HA0.out, HS5.out]; rfl)
   go_wp2_with fail
   go_ret3
   exact ⟨_, _, by rw [HA.out]; rfl, by rw [HA.out]; exact HL.out.kp hk14, by rw [HA.out]; exact HOP.out.kp hk14, HK1.out.trans hk14⟩
  | node kT lT rT =>
   obtain ⟨bT, pl, pr, hp, _⟩ := id HT4.out
   subst hp
   obtain ⟨TT, hTT⟩ : ∃ TT, TT = T.node kT lT rT := ⟨_, rfl⟩
   have hne : (T.node kT lT rT).spots 0 ≠ [] := by simp [T.spots]
   have HA : Hid (ansW l ops ws = (l, ops, Lib.itoa (mostL ((T.node kT lT rT).spots 0)))) := hide (by
    have h9 := most0 _ HDP.out
    rw [most_eq hne HDP.out] at h9
    rw [HA0.out, HS5.out, if_neg (by omega)])
   have HM0 := hide (most0 _ HDP.out)
   have HME := hide (most_eq hne HDP.out)
   have HSP := hide (spots_any (T.node kT lT rT) _ 0 w4 HT4.out (by decide) HSZ.out)
   obtain ⟨sp, hsp⟩ : ∃ sp, sp = (T.node kT lT rT).spots 0 := ⟨_, rfl⟩
   rw [<- hsp] at HA HSP HDP HM0 HME
   clear hsp hne hTT
   go_wp2_with fail
   refine HSP.out.mono ?_
   rintro e w5 ⟨v5, rfl, ho5, hb5⟩
   have hk5 := Kp.of hb5
   have HR5 := hide ho5.rd
   obtain ⟨A5, c5, rfl, hc5, _⟩ := ho5.rd.shape
   clear ho5 hb5
   go_wp2_with fail
   go_loopw [31, 271] (LdRel sp w5) (fun _ i _ => sp.length - (intOf i).toNat)
   case atStart => exact ⟨0, by omega, rfl, rfl, Kp.refl _⟩
   case round =>
    obtain ⟨k, hk, rfl, rfl, hkp⟩ := hrel
    by_cases hlt : k < sp.length
    ·obtain ⟨b, o, rfl, _, z0, z1⟩ := (HR5.out.kp hkp).pair hlt
     obtain ⟨y, hy⟩ : ∃ y, y = sp[k].2 := ⟨_, rfl⟩
     rw [<- hy] at z1
     obtain ⟨M, hM⟩ : ∃ M, M = (sp.take k).foldl (fun m q => max m q.2) 0 := ⟨_, rfl⟩
     have HN : Hid (max M y = (sp.take (k + 1)).foldl (fun m q => max m q.2) 0) := hide (by rw [List.take_succ_eq_append_getElem hlt, List.foldl_append, hM, hy]; rfl)
     rw [<- hM]
     clear hy hM
     go_wp2
     go_roundw
     case rel => exact ⟨k + 1, by omega, by go_num, by rw [<- HN.out], (by (exact Kp.auto))⟩
     case measure => simp [intOf]; omega
    ·have hkl : Hid ((sp.take k).foldl (fun m q => max m q.2) 0 = mostL sp) := hide (by rw [List.take_of_length_le (by omega)]; exact HME.out)
     have h9 := HM0.out
     rw [HME.out] at h9
     have HDG := hide (fun W => dig_any (mostL sp) W h9.1 (by omega))
     rw [hkl.out]
     obtain ⟨M, hM⟩ : ∃ M, M = mostL sp := ⟨_, rfl⟩
     rw [<- hM] at HA HDG ⊢
     clear h9 hM hkl
     go_wp2_with fail
     refine (HDG.out _).mono ?_
     rintro e w6 ⟨rfl, hw6⟩
     have HK9 : Hid (Kp W1 w6) := hide (by rw [<- hw6]; exact (hk14.trans hk5).trans hkp)
     go_wp2
     go_ret3
     exact ⟨_, _, by rw [HA.out]; rfl, by rw [HA.out]; exact HL.out.kp HK9.out, by rw [HA.out]; exact HOP.out.kp HK9.out, HK1.out.trans HK9.out⟩
 ·have c1 : (s1.toList == [103, 114, 111, 119]) = false := beq_eq_false_iff_ne.2 (fun e => g1 (hs1l.symm.trans e))
  by_cases g2 : s1w = zipB
  ·have c2' : (s1.toList == [122, 105, 112]) = true := beq_iff_eq.2 (hs1l.trans g2)
   obtain ⟨TT, hTT⟩ : ∃ TT, TT = heapTree (ks.map zk) := ⟨_, rfl⟩
   have hrt : refT ks ops s1w = some TT := by rw [HREF.out, if_neg g1, if_pos g2, hTT]
   have HL5 := hide (HLK.out TT hrt)
   have HS5 := hide (HSOME.out TT hrt)
   rw [<- hTT] at HZT
   clear hTT hrt g1 g2 hs1l
   go_enter Tryz.func22, Tryz.ntmps22
   go_wp2_with fail
   rw [<- hW1]
   refine HI.out.mono ?_
   rintro e w1' ⟨rfl, hw1'⟩
   rw [hw1']
   clear x1 hw1' hW1
   go_wp2_with fail
   refine (HMK.out _ _ HL.out).mono ?_
   rintro e w2 ⟨v2, rfl, ho2, hb2⟩
   have hk2 := Kp.of hb2
   have HR2 := hide ho2.rd
   obtain ⟨A2, n2, c2, rfl⟩ := ho2.rd.slice
   have x2 := hk2.cell HX0.out
   clear ho2 hb2
   go_wp2_with fail
   refine (HAW.out _ _ (HOP.out.kp hk2)).mono ?_
   rintro e w3 ⟨v3, u3, rfl, hr3, hu3, hb3⟩
   have hk3 := Kp.of hb3
   have hk13 := hk2.trans hk3
   have HRA := hide hu3
   have y3 := hk13.cell HY.out
   have x3 := hk13.cell HX0.out
   clear hr3 hu3 hb3
   go_wp2_with fail
   refine (HZT.out _ _ (HR2.out.kp hk3)).mono ?_
   rintro e w4 ⟨pT, rfl, ht4, hb4⟩
   have hk4 := Kp.of hb4
   have HT4 := hide ht4
   clear ht4 hb4
   have x4 := hk4.cell x3
   have hk14 := hk13.trans hk4
   have HSZ := hide (show (0 : Int) + TT.size <= 1073741824 by have := HL5.out.size; omega)
   have HDP := hide HL5.out.deep
   cases TT with
   | nil =>
    have hp : pT = none := HT4.out
    subst hp
    have HA : Hid (ansW l ops ws = (l, ops, noneB)) := hide (by rw [HA0.out, HS5.out]; rfl)
    go_wp2_with fail
    go_ret3
    exact ⟨_, _, by rw [HA.out]; rfl, by rw [HA.out]; exact HL.out.kp hk14, by rw [HA.out]; exact HOP.out.kp hk14, HK1.out.trans hk14⟩
   | node kT lT rT =>
    obtain ⟨bT, pl, pr, hp, _⟩ := id HT4.out
    subst hp
    obtain ⟨TT, hTT⟩ : ∃ TT, TT = T.node kT lT rT := ⟨_, rfl⟩
    have hne : (T.node kT lT rT).spots 0 ≠ [] := by simp [T.spots]
    have HA : Hid (ansW l ops ws = (l, ops, Lib.itoa (mostL ((T.node kT lT rT).spots 0)))) := hide (by
     have h9 := most0 _ HDP.out
     rw [most_eq hne HDP.out] at h9
     rw [HA0.out, HS5.out, if_neg (by omega)])
    have HM0 := hide (most0 _ HDP.out)
    have HME := hide (most_eq hne HDP.out)
    have HSP := hide (spots_any (T.node kT lT rT) _ 0 w4 HT4.out (by decide) HSZ.out)
    obtain ⟨sp, hsp⟩ : ∃ sp, sp = (T.node kT lT rT).spots 0 := ⟨_, rfl⟩
    rw [<- hsp] at HA HSP HDP HM0 HME
    clear hsp hne hTT
    go_wp2_with fail
    refine HSP.out.mono ?_
    rintro e w5 ⟨v5, rfl, ho5, hb5⟩
    have hk5 := Kp.of hb5
    have HR5 := hide ho5.rd
    obtain ⟨A5, c5, rfl, hc5, _⟩ := ho5.rd.shape
    clear ho5 hb5
    go_wp2_with fail
    go_loopw [31, 271] (LdRel sp w5) (fun _ i _ => sp.length - (intOf i).toNat)
    case atStart => exact ⟨0, by omega, rfl, rfl, Kp.refl _⟩
    case round =>
     obtain ⟨k, hk, rfl, rfl, hkp⟩ := hrel
     by_cases hlt : k < sp.length
     ·obtain ⟨b, o, rfl, _, z0, z1⟩ := (HR5.out.kp hkp).pair hlt
      obtain ⟨y, hy⟩ : ∃ y, y = sp[k].2 := ⟨_, rfl⟩
      rw [<- hy] at z1
      obtain ⟨M, hM⟩ : ∃ M, M = (sp.take k).foldl (fun m q => max m q.2) 0 := ⟨_, rfl⟩
      have HN : Hid (max M y = (sp.take (k + 1)).foldl (fun m q => max m q.2) 0) := hide (by rw [List.take_succ_eq_append_getElem hlt, List.foldl_append, hM, hy]; rfl)
      rw [<- hM]
      clear hy hM
      go_wp2
      go_roundw
      case rel => exact ⟨k + 1, by omega, by go_num, by rw [<- HN.out], (by (exact Kp.auto))⟩
      case measure => simp [intOf]; omega
     ·have hkl : Hid ((sp.take k).foldl (fun m q => max m q.2) 0 = mostL sp) := hide (by rw [List.take_of_length_le (by omega)]; exact HME.out)
      have h9 := HM0.out
      rw [HME.out] at h9
      have HDG := hide (fun W => dig_any (mostL sp) W h9.1 (by omega))
      rw [hkl.out]
      obtain ⟨M, hM⟩ : ∃ M, M = mostL sp := ⟨_, rfl⟩
      rw [<- hM] at HA HDG ⊢
      clear h9 hM hkl
      go_wp2_with fail
      refine (HDG.out _).mono ?_
      rintro e w6 ⟨rfl, hw6⟩
      have HK9 : Hid (Kp W1 w6) := hide (by rw [<- hw6]; exact (hk14.trans hk5).trans hkp)
      go_wp2
      go_ret3
      exact ⟨_, _, by rw [HA.out]; rfl, by rw [HA.out]; exact HL.out.kp HK9.out, by rw [HA.out]; exact HOP.out.kp HK9.out, HK1.out.trans HK9.out⟩
  ·have c2' : (s1.toList == [122, 105, 112]) = false := beq_eq_false_iff_ne.2 (fun e => g2 (hs1l.symm.trans e))
   by_cases g3 : s1w = goatB
   ·have c3' : (s1.toList == [103, 111, 97, 116]) = true := beq_iff_eq.2 (hs1l.trans g3)
    obtain ⟨S, hS⟩ : ∃ S, S = gtT (opsZ ops) := ⟨_, rfl⟩
    obtain ⟨TT, hTT⟩ : ∃ TT, TT = skel S.T := ⟨_, rfl⟩
    have hrt : refT ks ops s1w = some TT := by rw [HREF.out, if_neg g1, if_neg g2, if_pos g3, hTT, hS]
    have HL5 := hide (HLK.out TT hrt)
    have HS5 := hide (HSOME.out TT hrt)
    rw [<- hS] at HGO
    unfold GgdPost at HGO
    rw [<- hTT] at HGO
    clear hTT hrt g1 g2 g3 hs1l hS
    go_enter Tryz.func22, Tryz.ntmps22
    go_wp2_with fail
    rw [<- hW1]
    refine HI.out.mono ?_
    rintro e w1' ⟨rfl, hw1'⟩
    rw [hw1']
    clear x1 hw1' hW1
    go_wp2_with fail
    refine (HMK.out _ _ HL.out).mono ?_
    rintro e w2 ⟨v2, rfl, ho2, hb2⟩
    have hk2 := Kp.of hb2
    have HR2 := hide ho2.rd
    obtain ⟨A2, n2, c2, rfl⟩ := ho2.rd.slice
    have x2 := hk2.cell HX0.out
    clear ho2 hb2
    go_wp2_with fail
    refine (HAW.out _ _ (HOP.out.kp hk2)).mono ?_
    rintro e w3 ⟨v3, u3, rfl, hr3, hu3, hb3⟩
    have hk3 := Kp.of hb3
    have hk13 := hk2.trans hk3
    have HRA := hide hu3
    have y3 := hk13.cell HY.out
    have x3 := hk13.cell HX0.out
    clear hr3 hu3 hb3
    go_wp2_with fail
    refine (HGO.out _ _ _ (HOP.out.kp hk13) HRA.out).mono ?_
    rintro e w4 ⟨pT, rfl, ht4, hb4⟩
    have hk4 := Kp.of hb4
    have HT4 := hide ht4
    clear ht4 hb4
    have x4 := hk4.cell x3
    have hk14 := hk13.trans hk4
    have HSZ := hide (show (0 : Int) + TT.size <= 1073741824 by have := HL5.out.size; omega)
    have HDP := hide HL5.out.deep
    cases TT with
    | nil =>
     have hp : pT = none := HT4.out
     subst hp
     have HA : Hid (ansW l ops ws = (l, ops, noneB)) := hide (by rw [HA0.out, HS5.out]; rfl)
     go_wp2_with fail
     go_ret3
     exact ⟨_, _, by rw [HA.out]; rfl, by rw [HA.out]; exact HL.out.kp hk14, by rw [HA.out]; exact HOP.out.kp hk14, HK1.out.trans hk14⟩
    | node kT lT rT =>
     obtain ⟨bT, pl, pr, hp, _⟩ := id HT4.out
     subst hp
     obtain ⟨TT, hTT⟩ : ∃ TT, TT = T.node kT lT rT := ⟨_, rfl⟩
     have hne : (T.node kT lT rT).spots 0 ≠ [] := by simp [T.spots]
     have HA : Hid (ansW l ops ws = (l, ops, Lib.itoa (mostL ((T.node kT lT rT).spots 0)))) := hide (by
      have h9 := most0 _ HDP.out
      rw [most_eq hne HDP.out] at h9
      rw [HA0.out, HS5.out, if_neg (by omega)])
     have HM0 := hide (most0 _ HDP.out)
     have HME := hide (most_eq hne HDP.out)
     have HSP := hide (spots_any (T.node kT lT rT) _ 0 w4 HT4.out (by decide) HSZ.out)
     obtain ⟨sp, hsp⟩ : ∃ sp, sp = (T.node kT lT rT).spots 0 := ⟨_, rfl⟩
     rw [<- hsp] at HA HSP HDP HM0 HME
     clear hsp hne hTT
     go_wp2_with fail
     refine HSP.out.mono ?_
     rintro e w5 ⟨v5, rfl, ho5, hb5⟩
     have hk5 := Kp.of hb5
     have HR5 := hide ho5.rd
     obtain ⟨A5, c5, rfl, hc5, _⟩ := ho5.rd.shape
     clear ho5 hb5
     go_wp2_with fail
     go_loopw [31, 271] (LdRel sp w5) (fun _ i _ => sp.length - (intOf i).toNat)
     case atStart => exact ⟨0, by omega, rfl, rfl, Kp.refl _⟩
     case round =>
      obtain ⟨k, hk, rfl, rfl, hkp⟩ := hrel
      by_cases hlt : k < sp.length
      ·obtain ⟨b, o, rfl, _, z0, z1⟩ := (HR5.out.kp hkp).pair hlt
       obtain ⟨y, hy⟩ : ∃ y, y = sp[k].2 := ⟨_, rfl⟩
       rw [<- hy] at z1
       obtain ⟨M, hM⟩ : ∃ M, M = (sp.take k).foldl (fun m q => max m q.2) 0 := ⟨_, rfl⟩
       have HN : Hid (max M y = (sp.take (k + 1)).foldl (fun m q => max m q.2) 0) := hide (by rw [List.take_succ_eq_append_getElem hlt, List.foldl_append, hM, hy]; rfl)
       rw [<- hM]
       clear hy hM
       go_wp2
       go_roundw
       case rel => exact ⟨k + 1, by omega, by go_num, by rw [<- HN.out], (by (exact Kp.auto))⟩
       case measure => simp [intOf]; omega
      ·have hkl : Hid ((sp.take k).foldl (fun m q => max m q.2) 0 = mostL sp) := hide (by rw [List.take_of_length_le (by omega)]; exact HME.out)
       have h9 := HM0.out
       rw [HME.out] at h9
       have HDG := hide (fun W => dig_any (mostL sp) W h9.1 (by omega))
       rw [hkl.out]
       obtain ⟨M, hM⟩ : ∃ M, M = mostL sp := ⟨_, rfl⟩
       rw [<- hM] at HA HDG ⊢
       clear h9 hM hkl
       go_wp2_with fail
       refine (HDG.out _).mono ?_
       rintro e w6 ⟨rfl, hw6⟩
       have HK9 : Hid (Kp W1 w6) := hide (by rw [<- hw6]; exact (hk14.trans hk5).trans hkp)
       go_wp2
       go_ret3
       exact ⟨_, _, by rw [HA.out]; rfl, by rw [HA.out]; exact HL.out.kp HK9.out, by rw [HA.out]; exact HOP.out.kp HK9.out, HK1.out.trans HK9.out⟩
   ·have c3' : (s1.toList == [103, 111, 97, 116]) = false := beq_eq_false_iff_ne.2 (fun e => g3 (hs1l.symm.trans e))
    by_cases g4 : s1w = evenB
    ·have c4' : (s1.toList == [101, 118, 101, 110]) = true := beq_iff_eq.2 (hs1l.trans g4)
     obtain ⟨TT, hTT⟩ : ∃ TT, TT = skel (evenT ks) := ⟨_, rfl⟩
     have hrt : refT ks ops s1w = some TT := by rw [HREF.out, if_neg g1, if_neg g2, if_neg g3, if_pos g4, hTT]
     have HL5 := hide (HLK.out TT hrt)
     have HS5 := hide (HSOME.out TT hrt)
     rw [<- hTT] at HEV
     clear hTT hrt g1 g2 g3 g4 hs1l
     go_enter Tryz.func22, Tryz.ntmps22
     go_wp2_with fail
     rw [<- hW1]
     refine HI.out.mono ?_
     rintro e w1' ⟨rfl, hw1'⟩
     rw [hw1']
     clear x1 hw1' hW1
     go_wp2_with fail
     refine (HMK.out _ _ HL.out).mono ?_
     rintro e w2 ⟨v2, rfl, ho2, hb2⟩
     have hk2 := Kp.of hb2
     have HR2 := hide ho2.rd
     obtain ⟨A2, n2, c2, rfl⟩ := ho2.rd.slice
     have x2 := hk2.cell HX0.out
     clear ho2 hb2
     go_wp2_with fail
     refine (HAW.out _ _ (HOP.out.kp hk2)).mono ?_
     rintro e w3 ⟨v3, u3, rfl, hr3, hu3, hb3⟩
     have hk3 := Kp.of hb3
     have hk13 := hk2.trans hk3
     have HRA := hide hu3
     have y3 := hk13.cell HY.out
     have x3 := hk13.cell HX0.out
     clear hr3 hu3 hb3
     go_wp2_with fail
     refine (HEV.out _ _ (HR2.out.kp hk3)).mono ?_
     rintro e w4 ⟨pT, rfl, ht4, hb4⟩
     have hk4 := Kp.of hb4
     have HT4 := hide ht4
     clear ht4 hb4
     have x4 := hk4.cell x3
     have hk14 := hk13.trans hk4
     have HSZ := hide (show (0 : Int) + TT.size <= 1073741824 by have := HL5.out.size; omega)
     have HDP := hide HL5.out.deep
     cases TT with
     | nil =>
      have hp : pT = none := HT4.out
      subst hp
      have HA : Hid (ansW l ops ws = (l, ops, noneB)) := hide (by rw [HA0.out, HS5.out]; rfl)
      go_wp2_with fail
      go_ret3
      exact ⟨_, _, by rw [HA.out]; rfl, by rw [HA.out]; exact HL.out.kp hk14, by rw [HA.out]; exact HOP.out.kp hk14, HK1.out.trans hk14⟩
     | node kT lT rT =>
      obtain ⟨bT, pl, pr, hp, _⟩ := id HT4.out
      subst hp
      obtain ⟨TT, hTT⟩ : ∃ TT, TT = T.node kT lT rT := ⟨_, rfl⟩
      have hne : (T.node kT lT rT).spots 0 ≠ [] := by simp [T.spots]
      have HA : Hid (ansW l ops ws = (l, ops, Lib.itoa (mostL ((T.node kT lT rT).spots 0)))) := hide (by
       have h9 := most0 _ HDP.out
       rw [most_eq hne HDP.out] at h9
       rw [HA0.out, HS5.out, if_neg (by omega)])
      have HM0 := hide (most0 _ HDP.out)
      have HME := hide (most_eq hne HDP.out)
      have HSP := hide (spots_any (T.node kT lT rT) _ 0 w4 HT4.out (by decide) HSZ.out)
      obtain ⟨sp, hsp⟩ : ∃ sp, sp = (T.node kT lT rT).spots 0 := ⟨_, rfl⟩
      rw [<- hsp] at HA HSP HDP HM0 HME
      clear hsp hne hTT
      go_wp2_with fail
      refine HSP.out.mono ?_
      rintro e w5 ⟨v5, rfl, ho5, hb5⟩
      have hk5 := Kp.of hb5
      have HR5 := hide ho5.rd
      obtain ⟨A5, c5, rfl, hc5, _⟩ := ho5.rd.shape
      clear ho5 hb5
      go_wp2_with fail
      go_loopw [31, 271] (LdRel sp w5) (fun _ i _ => sp.length - (intOf i).toNat)
      case atStart => exact ⟨0, by omega, rfl, rfl, Kp.refl _⟩
      case round =>
       obtain ⟨k, hk, rfl, rfl, hkp⟩ := hrel
       by_cases hlt : k < sp.length
       ·obtain ⟨b, o, rfl, _, z0, z1⟩ := (HR5.out.kp hkp).pair hlt
        obtain ⟨y, hy⟩ : ∃ y, y = sp[k].2 := ⟨_, rfl⟩
        rw [<- hy] at z1
        obtain ⟨M, hM⟩ : ∃ M, M = (sp.take k).foldl (fun m q => max m q.2) 0 := ⟨_, rfl⟩
        have HN : Hid (max M y = (sp.take (k + 1)).foldl (fun m q => max m q.2) 0) := hide (by rw [List.take_succ_eq_append_getElem hlt, List.foldl_append, hM, hy]; rfl)
        rw [<- hM]
        clear hy hM
        go_wp2
        go_roundw
        case rel => exact ⟨k + 1, by omega, by go_num, by rw [<- HN.out], (by (exact Kp.auto))⟩
        case measure => simp [intOf]; omega
       ·have hkl : Hid ((sp.take k).foldl (fun m q => max m q.2) 0 = mostL sp) := hide (by rw [List.take_of_length_le (by omega)]; exact HME.out)
        have h9 := HM0.out
        rw [HME.out] at h9
        have HDG := hide (fun W => dig_any (mostL sp) W h9.1 (by omega))
        rw [hkl.out]
        obtain ⟨M, hM⟩ : ∃ M, M = mostL sp := ⟨_, rfl⟩
        rw [<- hM] at HA HDG ⊢
        clear h9 hM hkl
        go_wp2_with fail
        refine (HDG.out _).mono ?_
        rintro e w6 ⟨rfl, hw6⟩
        have HK9 : Hid (Kp W1 w6) := hide (by rw [<- hw6]; exact (hk14.trans hk5).trans hkp)
        go_wp2
        go_ret3
        exact ⟨_, _, by rw [HA.out]; rfl, by rw [HA.out]; exact HL.out.kp HK9.out, by rw [HA.out]; exact HOP.out.kp HK9.out, HK1.out.trans HK9.out⟩
    ·have c4' : (s1.toList == [101, 118, 101, 110]) = false := beq_eq_false_iff_ne.2 (fun e => g4 (hs1l.symm.trans e))
     have hrt : refT ks ops s1w = none := by rw [HREF.out, if_neg g1, if_neg g2, if_neg g3, if_neg g4]
     have HA : Hid (ansW l ops ws = (l, ops, errB 1)) := hide (by rw [HA0.out, HNONE.out hrt])
     clear hrt g1 g2 g3 g4 hs1l
     go_enter Tryz.func22, Tryz.ntmps22
     go_wp2_with fail
     rw [<- hW1]
     refine HI.out.mono ?_
     rintro e w1' ⟨rfl, hw1'⟩
     rw [hw1']
     clear x1 hw1' hW1
     go_wp2_with fail
     refine (HMK.out _ _ HL.out).mono ?_
     rintro e w2 ⟨v2, rfl, ho2, hb2⟩
     have hk2 := Kp.of hb2
     have HR2 := hide ho2.rd
     obtain ⟨A2, n2, c2, rfl⟩ := ho2.rd.slice
     have x2 := hk2.cell HX0.out
     clear ho2 hb2
     go_wp2_with fail
     refine (HAW.out _ _ (HOP.out.kp hk2)).mono ?_
     rintro e w3 ⟨v3, u3, rfl, hr3, hu3, hb3⟩
     have hk3 := Kp.of hb3
     have hk13 := hk2.trans hk3
     have HRA := hide hu3
     have y3 := hk13.cell HY.out
     have x3 := hk13.cell HX0.out
     clear hr3 hu3 hb3
     go_wp2_with fail
     go_wp2
     go_ret3
     exact ⟨_, _, by rw [HA.out, errB_one]; rfl, by rw [HA.out]; exact HL.out.kp hk13, by rw [HA.out]; exact HOP.out.kp hk13, HK1.out.trans hk13⟩
theorem li_no (l : List IP) (ops : List O3) (ws : List ByteArray) (v u vw : Value) (w : World) (hl : RD w ePair v l) (ho : RD w eOp u ops) (hw : RD w eStr vw ws) (hin : DkIn l ops) (hn : ops.length <= 200)
  (hss : ∀ s ∈ ws, s.size <= 9223372036854775807) (hne : ∀ s ∈ ws, s ≠ ByteArray.empty) (h0 : ws ≠ []) (hwl : ws.length <= 4294967296) (hk : kOf ws = 0) (hlen : ws.length = 2) (hp : wAt ws 0 ≠ pathB) (ht' : wAt ws 0 ≠ treeB) (hd : wAt ws 0 ≠ deepB) :
  Calls Tryz.prog 22 #[v, u, vw] w (LiPost (ansW l ops ws) w) := by
 obtain ⟨W1, hW1⟩ : ∃ W1, W1 = w.alloc (.cells #[.string ⟨#[112, 117, 116]⟩, .string ⟨#[103, 101, 116]⟩, .string ⟨#[99, 117, 116]⟩, .string ⟨#[110, 101, 120, 116]⟩, .string ⟨#[112, 114, 101, 118]⟩, .string ⟨#[99, 111, 117, 110, 116]⟩, .string ⟨#[110, 116, 104]⟩] 9) := ⟨_, rfl⟩
 have hk1 : Kp w W1 := by rw [hW1]; exact (Kp.refl w).alloc
 have hb1 : RD W1 eStr (.slice (some ⟨w.heap.size, 0, none⟩) 7 7) kindsB := by rw [hW1]; exact RD.block (l := kindsB) (heap_alloc_new w _) rfl (by simp [kindsB, maxLen])
 obtain ⟨A, c, rfl, hc, hcm⟩ := hw.shape
 obtain ⟨b, o, rfl, _, x0⟩ := hw.str (k := 0) (List.length_pos_iff.2 h0)
 rw [Nat.add_zero] at x0
 have hl0 : 0 < ws.length := List.length_pos_iff.2 h0
 have hl0i : (0 : Int) < (ws.length : Int) := by omega
 have d0 : decide (0 < ws.length) = true := decide_eq_true hl0
 obtain ⟨s0, hs0⟩ : ∃ s0, s0 = ws[0] := ⟨_, rfl⟩
 have hse : ws.getD 0 ByteArray.empty = ws[0] := by simp [List.getD_eq_getElem?_getD, List.getElem?_eq_getElem hl0]
 obtain ⟨K, hK⟩ : ∃ K : Int, K = kOf ws := ⟨_, rfl⟩
 have hk' : kindOf s0 = K := by rw [hs0, <- hse, hK, kOf]
 have hw0 : s0.toList = wAt ws 0 := by rw [ByteArray.toList_eq, hs0, wAt, hse]
 have hK7 : 0 <= K /\ K <= 7 := by rw [<- hk']; exact kind_in s0
 rw [<- hs0] at x0
 have x1 := hk1.cell x0
 rw [hW1] at x1
 have HX0 := hide (hk1.cell x0)
 have HI : Hid (Calls Tryz.prog 46 #[.slice (some ⟨w.heap.size, 0, none⟩) 7 7, .string s0] W1 (fun e w' => e = .returned (.int .i64 (K - 1)) /\ w' = W1)) := hide (by
  have := idx_any s0 W1 w.heap.size hb1
  rwa [hk'] at this)
 obtain ⟨ix, hix⟩ : ∃ ix : Int, ix = K - 1 := ⟨_, rfl⟩
 rw [<- hix] at HI
 have HIX := hide hix
 obtain ⟨A1, hA1⟩ : ∃ A1, (if c = 1 then some (⟨b, o, none⟩ : Addr) else some ⟨b, o + 1, none⟩) = A1 := ⟨_, rfl⟩
 have HRD1 : Hid (RD W1 eStr (.slice A1 (ws.length - 1) (c - 1)) (ws.drop 1)) := hide ((hw.kp hk1).dropS (by omega) (s := 1) rfl (by rw [Nat.mul_one]; exact hA1))
 have HL := hide (hl.kp hk1)
 have HOP := hide (ho.kp hk1)
 have HW := hide (hw.kp hk1)
 have HK1 := hide hk1
 have HKK := hide hK
 obtain ⟨Al, cl, rfl, _, _⟩ := hl.shape
 obtain ⟨Ao, co, rfl, _, _⟩ := ho.shape
 have HIN := hide hin
 have HWS := hide (And.intro hss hne)
 rw [<- hK] at hk
 clear hb1 hse hk' hs0 hl ho hw hK x0 hk1 hin hss hne hix
 obtain rfl : K = 0 := hk
 obtain rfl : ix = -1 := by have := HIX.out; omega
 have HA0 : Hid (ansW l ops ws = (l, ops, match lineS (l.map Prod.fst) ops ws with | .ok s => s | .error e => errB e)) := hide (by rw [ansW, if_neg (by rw [<- HKK.out]; omega)]; rfl)
 have HKL : Hid (l.length <= 200) := hide (mapRight_len l HIN.out.right)
 have HKR : Hid (krL (l.map Prod.fst) = 0) := hide (by rw [<- HIN.out.run]; exact runL_keys ops)
 have HMK := hide (fun v W h => mapKeys_any l v W h (by have := HKL.out; omega))
 obtain ⟨_, _, e1, _, y1⟩ := HW.out.str (k := 1) (by omega)
 injection e1 with e1
 injection e1 with e1 e2
 subst e1 e2
 obtain ⟨s1, hs1⟩ : ∃ s1, s1 = ws[1] := ⟨_, rfl⟩
 rw [<- hs1] at y1
 have hw1 : s1.data.toList = wAt ws 1 := by
  rw [hs1, wAt]
  simp [List.getD_eq_getElem?_getD, List.getElem?_eq_getElem (show 1 < ws.length by omega)]
 have hss1 : s1.size <= 9223372036854775807 := HWS.out.1 s1 (by rw [hs1]; exact List.getElem_mem _)
 have HY := hide y1
 have bl2 : ((ws.length : Int) == 2) = true := beq_iff_eq.2 (by omega)
 have hl1i : (1 : Int) < (ws.length : Int) := by omega
 have d1i : decide ((1 : Int) < (ws.length : Int)) = true := decide_eq_true hl1i
 have bl1 : ((ws.length : Int) == 1) = false := beq_eq_false_iff_ne.2 (by omega)
 have hnr : ¬ (wAt ws 0 = rowsB /\ ws.length = 1) := fun e => by omega
 have hn2 : ¬ ws.length ≠ 2 := fun e => e hlen
 have b1 : (s0.toList == [112, 97, 116, 104]) = false := beq_eq_false_iff_ne.2 (fun e => hp (hw0.symm.trans e))
 have b2 : (s0.toList == [116, 114, 101, 101]) = false := beq_eq_false_iff_ne.2 (fun e => ht' (hw0.symm.trans e))
 have b3 : (s0.toList == [100, 101, 101, 112]) = false := beq_eq_false_iff_ne.2 (fun e => hd (hw0.symm.trans e))
 have HSOME : Hid (∀ t, refT (l.map Prod.fst) ops (wAt ws 1) = some t -> lineS (l.map Prod.fst) ops ws = .error 1) := hide (fun t _ => line_no hn2 hp (.inl ⟨ht', hd⟩))
 have h1 := hp
 obtain ⟨B0, hB0⟩ : ∃ B0, (s0.toList == [114, 111, 119, 115]) = B0 := ⟨_, rfl⟩
 have HLK := hide (fun t ht => link_some HIN.out (by omega) (s := wAt ws 1) (t := t) ht)
 have HNONE := hide (fun (ht : refT (l.map Prod.fst) ops (wAt ws 1) = none) => line_no (ks := l.map Prod.fst) (ops := ops) (ws := ws) hn2 hp (.inl ⟨ht', hd⟩))
 have hs1l : s1.toList = wAt ws 1 := by rw [ByteArray.toList_eq, hw1]
 have HAW := hide (fun v W h => answered_any ops v W h (by omega))
 have HGR := hide (fun v u W h a => grown_any ops (runL ops).2 v u W h a (runL_lenA ops))
 have HZT := hide (fun v W h => zipTree_any (l.map Prod.fst) v W h (by rw [List.length_map]; have := HKL.out; omega))
 have HGO := hide (fun v u W h a => goated_any ops (by omega) v u W h a)
 have HEV := hide (fun v W h => evenTree_any 1000000 (l.map Prod.fst) v W (by rw [List.length_map]; have := HKL.out; omega) (Nat.le_refl _) h)
 obtain ⟨s1w, hs1w⟩ : ∃ s1w, s1w = wAt ws 1 := ⟨_, rfl⟩
 rw [<- hs1w] at HNONE HLK HSOME hs1l
 obtain ⟨ks, hks⟩ : ∃ ks, ks = l.map Prod.fst := ⟨_, rfl⟩
 rw [<- hks] at HNONE HLK HSOME HZT HEV HMK HA0
 have HREF : Hid (∀ s, refT ks ops s = if s = growB then some (grT (ops.zip (runL ops).2)) else if s = zipB then some (heapTree (ks.map zk)) else if s = goatB then some (skel (gtT (opsZ ops)).T) else if s = evenB then some (skel (evenT ks)) else none) := hide (fun s => rfl)
 obtain ⟨RL, hRL⟩ : ∃ RL, RL = runL ops := ⟨_, rfl⟩
 rw [<- hRL] at HAW HGR HGO HREF
 obtain ⟨rl, ra⟩ := RL
 clear hs1w hks hRL
 clear hw0 h1 hp ht' hd hw1 hs1 hnr hn2 y1 hss1 hlen
 cases B0 with
 | true =>
  by_cases g1 : s1w = growB
  ·have c1 : (s1.toList == [103, 114, 111, 119]) = true := beq_iff_eq.2 (hs1l.trans g1)
   obtain ⟨TT, hTT⟩ : ∃ TT, TT = grT (ops.zip ra) := ⟨_, rfl⟩
   have hrt : refT ks ops s1w = some TT := by rw [HREF.out, if_pos g1, hTT]
   have HL5 := hide (HLK.out TT hrt)
   have HS5 := hide (HSOME.out TT hrt)
   simp only at HGR
   rw [<- hTT] at HGR
   clear hTT hrt g1 hs1l
   go_enter Tryz.func22, Tryz.ntmps22
   go_wp2_with fail
   rw [<- hW1]
   refine HI.out.mono ?_
   rintro e w1' ⟨rfl, hw1'⟩
   rw [hw1']
   clear x1 hw1' hW1
   go_wp2_with fail
   refine (HMK.out _ _ HL.out).mono ?_
   rintro e w2 ⟨v2, rfl, ho2, hb2⟩
   have hk2 := Kp.of hb2
   have HR2 := hide ho2.rd
   obtain ⟨A2, n2, c2, rfl⟩ := ho2.rd.slice
   have x2 := hk2.cell HX0.out
   clear ho2 hb2
   go_wp2_with fail
   refine (HAW.out _ _ (HOP.out.kp hk2)).mono ?_
   rintro e w3 ⟨v3, u3, rfl, hr3, hu3, hb3⟩
   have hk3 := Kp.of hb3
   have hk13 := hk2.trans hk3
   have HRA := hide hu3
   have y3 := hk13.cell HY.out
   have x3 := hk13.cell HX0.out
   clear hr3 hu3 hb3
   go_wp2_with fail
   refine (HGR.out _ _ _ (HOP.out.kp hk13) HRA.out).mono ?_
   rintro e w4 ⟨pT, rfl, ht4, hb4⟩
   have hk4 := Kp.of hb4
   have HT4 := hide ht4
   clear ht4 hb4
   have HA : Hid (ansW l ops ws = (l, ops, errB 1)) := hide (by rw [HA0.out, HS5.out])
   have x4 := hk4.cell x3
   have hk14 := hk13.trans hk4
   go_wp2_with fail
   go_wp2
   go_ret3
   exact ⟨_, _, by rw [HA.out, errB_one]; rfl, by rw [HA.out]; exact HL.out.kp hk14, by rw [HA.out]; exact HOP.out.kp hk14, HK1.out.trans hk14⟩
  ·have c1 : (s1.toList == [103, 114, 111, 119]) = false := beq_eq_false_iff_ne.2 (fun e => g1 (hs1l.symm.trans e))
   by_cases g2 : s1w = zipB
   ·have c2' : (s1.toList == [122, 105, 112]) = true := beq_iff_eq.2 (hs1l.trans g2)
    obtain ⟨TT, hTT⟩ : ∃ TT, TT = heapTree (ks.map zk) := ⟨_, rfl⟩
    have hrt : refT ks ops s1w = some TT := by rw [HREF.out, if_neg g1, if_pos g2, hTT]
    have HL5 := hide (HLK.out TT hrt)
    have HS5 := hide (HSOME.out TT hrt)
    rw [<- hTT] at HZT
    clear hTT hrt g1 g2 hs1l
    go_enter Tryz.func22, Tryz.ntmps22
    go_wp2_with fail
    rw [<- hW1]
    refine HI.out.mono ?_
    rintro e w1' ⟨rfl, hw1'⟩
    rw [hw1']
    clear x1 hw1' hW1
    go_wp2_with fail
    refine (HMK.out _ _ HL.out).mono ?_
    rintro e w2 ⟨v2, rfl, ho2, hb2⟩
    have hk2 := Kp.of hb2
    have HR2 := hide ho2.rd
    obtain ⟨A2, n2, c2, rfl⟩ := ho2.rd.slice
    have x2 := hk2.cell HX0.out
    clear ho2 hb2
    go_wp2_with fail
    refine (HAW.out _ _ (HOP.out.kp hk2)).mono ?_
    rintro e w3 ⟨v3, u3, rfl, hr3, hu3, hb3⟩
    have hk3 := Kp.of hb3
    have hk13 := hk2.trans hk3
    have HRA := hide hu3
    have y3 := hk13.cell HY.out
    have x3 := hk13.cell HX0.out
    clear hr3 hu3 hb3
    go_wp2_with fail
    refine (HZT.out _ _ (HR2.out.kp hk3)).mono ?_
    rintro e w4 ⟨pT, rfl, ht4, hb4⟩
    have hk4 := Kp.of hb4
    have HT4 := hide ht4
    clear ht4 hb4
    have HA : Hid (ansW l ops ws = (l, ops, errB 1)) := hide (by rw [HA0.out, HS5.out])
    have x4 := hk4.cell x3
    have hk14 := hk13.trans hk4
    go_wp2_with fail
    go_wp2
    go_ret3
    exact ⟨_, _, by rw [HA.out, errB_one]; rfl, by rw [HA.out]; exact HL.out.kp hk14, by rw [HA.out]; exact HOP.out.kp hk14, HK1.out.trans hk14⟩
   ·have c2' : (s1.toList == [122, 105, 112]) = false := beq_eq_false_iff_ne.2 (fun e => g2 (hs1l.symm.trans e))
    by_cases g3 : s1w = goatB
    ·have c3' : (s1.toList == [103, 111, 97, 116]) = true := beq_iff_eq.2 (hs1l.trans g3)
     obtain ⟨S, hS⟩ : ∃ S, S = gtT (opsZ ops) := ⟨_, rfl⟩
     obtain ⟨TT, hTT⟩ : ∃ TT, TT = skel S.T := ⟨_, rfl⟩
     have hrt : refT ks ops s1w = some TT := by rw [HREF.out, if_neg g1, if_neg g2, if_pos g3, hTT, hS]
     have HL5 := hide (HLK.out TT hrt)
     have HS5 := hide (HSOME.out TT hrt)
     rw [<- hS] at HGO
     unfold GgdPost at HGO
     rw [<- hTT] at HGO
     clear hTT hrt g1 g2 g3 hs1l hS
     go_enter Tryz.func22, Tryz.ntmps22
     go_wp2_with fail
     rw [<- hW1]
     refine HI.out.mono ?_
     rintro e w1' ⟨rfl, hw1'⟩
     rw [hw1']
     clear x1 hw1' hW1
     go_wp2_with fail
     refine (HMK.out _ _ HL.out).mono ?_
     rintro e w2 ⟨v2, rfl, ho2, hb2⟩
     have hk2 := Kp.of hb2
     have HR2 := hide ho2.rd
     obtain ⟨A2, n2, c2, rfl⟩ := ho2.rd.slice
     have x2 := hk2.cell HX0.out
     clear ho2 hb2
     go_wp2_with fail
     refine (HAW.out _ _ (HOP.out.kp hk2)).mono ?_
     rintro e w3 ⟨v3, u3, rfl, hr3, hu3, hb3⟩
     have hk3 := Kp.of hb3
     have hk13 := hk2.trans hk3
     have HRA := hide hu3
     have y3 := hk13.cell HY.out
     have x3 := hk13.cell HX0.out
     clear hr3 hu3 hb3
     go_wp2_with fail
     refine (HGO.out _ _ _ (HOP.out.kp hk13) HRA.out).mono ?_
     rintro e w4 ⟨pT, rfl, ht4, hb4⟩
     have hk4 := Kp.of hb4
     have HT4 := hide ht4
     clear ht4 hb4
     have HA : Hid (ansW l ops ws = (l, ops, errB 1)) := hide (by rw [HA0.out, HS5.out])
     have x4 := hk4.cell x3
     have hk14 := hk13.trans hk4
     go_wp2_with fail
     go_wp2
     go_ret3
     exact ⟨_, _, by rw [HA.out, errB_one]; rfl, by rw [HA.out]; exact HL.out.kp hk14, by rw [HA.out]; exact HOP.out.kp hk14, HK1.out.trans hk14⟩
    ·have c3' : (s1.toList == [103, 111, 97, 116]) = false := beq_eq_false_iff_ne.2 (fun e => g3 (hs1l.symm.trans e))
     by_cases g4 : s1w = evenB
     ·have c4' : (s1.toList == [101, 118, 101, 110]) = true := beq_iff_eq.2 (hs1l.trans g4)
      obtain ⟨TT, hTT⟩ : ∃ TT, TT = skel (evenT ks) := ⟨_, rfl⟩
      have hrt : refT ks ops s1w = some TT := by rw [HREF.out, if_neg g1, if_neg g2, if_neg g3, if_pos g4, hTT]
      have HL5 := hide (HLK.out TT hrt)
      have HS5 := hide (HSOME.out TT hrt)
      rw [<- hTT] at HEV
      clear hTT hrt g1 g2 g3 g4 hs1l
      go_enter Tryz.func22, Tryz.ntmps22
      go_wp2_with fail
      rw [<- hW1]
      refine HI.out.mono ?_
      rintro e w1' ⟨rfl, hw1'⟩
      rw [hw1']
      clear x1 hw1' hW1
      go_wp2_with fail
      refine (HMK.out _ _ HL.out).mono ?_
      rintro e w2 ⟨v2, rfl, ho2, hb2⟩
      have hk2 := Kp.of hb2
      have HR2 := hide ho2.rd
      obtain ⟨A2, n2, c2, rfl⟩ := ho2.rd.slice
      have x2 := hk2.cell HX0.out
      clear ho2 hb2
      go_wp2_with fail
      refine (HAW.out _ _ (HOP.out.kp hk2)).mono ?_
      rintro e w3 ⟨v3, u3, rfl, hr3, hu3, hb3⟩
      have hk3 := Kp.of hb3
      have hk13 := hk2.trans hk3
      have HRA := hide hu3
      have y3 := hk13.cell HY.out
      have x3 := hk13.cell HX0.out
      clear hr3 hu3 hb3
      go_wp2_with fail
      refine (HEV.out _ _ (HR2.out.kp hk3)).mono ?_
      rintro e w4 ⟨pT, rfl, ht4, hb4⟩
      have hk4 := Kp.of hb4
      have HT4 := hide ht4
      clear ht4 hb4
      have HA : Hid (ansW l ops ws = (l, ops, errB 1)) := hide (by rw [HA0.out, HS5.out])
      have x4 := hk4.cell x3
      have hk14 := hk13.trans hk4
      go_wp2_with fail
      go_wp2
      go_ret3
      exact ⟨_, _, by rw [HA.out, errB_one]; rfl, by rw [HA.out]; exact HL.out.kp hk14, by rw [HA.out]; exact HOP.out.kp hk14, HK1.out.trans hk14⟩
     ·have c4' : (s1.toList == [101, 118, 101, 110]) = false := beq_eq_false_iff_ne.2 (fun e => g4 (hs1l.symm.trans e))
      have hrt : refT ks ops s1w = none := by rw [HREF.out, if_neg g1, if_neg g2, if_neg g3, if_neg g4]
      have HA : Hid (ansW l ops ws = (l, ops, errB 1)) := hide (by rw [HA0.out, HNONE.out hrt])
      clear hrt g1 g2 g3 g4 hs1l
      go_enter Tryz.func22, Tryz.ntmps22
      go_wp2_with fail
      rw [<- hW1]
      refine HI.out.mono ?_
      rintro e w1' ⟨rfl, hw1'⟩
      rw [hw1']
      clear x1 hw1' hW1
      go_wp2_with fail
      refine (HMK.out _ _ HL.out).mono ?_
      rintro e w2 ⟨v2, rfl, ho2, hb2⟩
      have hk2 := Kp.of hb2
      have HR2 := hide ho2.rd
      obtain ⟨A2, n2, c2, rfl⟩ := ho2.rd.slice
      have x2 := hk2.cell HX0.out
      clear ho2 hb2
      go_wp2_with fail
      refine (HAW.out _ _ (HOP.out.kp hk2)).mono ?_
      rintro e w3 ⟨v3, u3, rfl, hr3, hu3, hb3⟩
      have hk3 := Kp.of hb3
      have hk13 := hk2.trans hk3
      have HRA := hide hu3
      have y3 := hk13.cell HY.out
      have x3 := hk13.cell HX0.out
      clear hr3 hu3 hb3
      go_wp2_with fail
      go_wp2
      go_ret3
      exact ⟨_, _, by rw [HA.out, errB_one]; rfl, by rw [HA.out]; exact HL.out.kp hk13, by rw [HA.out]; exact HOP.out.kp hk13, HK1.out.trans hk13⟩
 | false =>
  by_cases g1 : s1w = growB
  ·have c1 : (s1.toList == [103, 114, 111, 119]) = true := beq_iff_eq.2 (hs1l.trans g1)
   obtain ⟨TT, hTT⟩ : ∃ TT, TT = grT (ops.zip ra) := ⟨_, rfl⟩
   have hrt : refT ks ops s1w = some TT := by rw [HREF.out, if_pos g1, hTT]
   have HL5 := hide (HLK.out TT hrt)
   have HS5 := hide (HSOME.out TT hrt)
   simp only at HGR
   rw [<- hTT] at HGR
   clear hTT hrt g1 hs1l
   go_enter Tryz.func22, Tryz.ntmps22
   go_wp2_with fail
   rw [<- hW1]
   refine HI.out.mono ?_
   rintro e w1' ⟨rfl, hw1'⟩
   rw [hw1']
   clear x1 hw1' hW1
   go_wp2_with fail
   refine (HMK.out _ _ HL.out).mono ?_
   rintro e w2 ⟨v2, rfl, ho2, hb2⟩
   have hk2 := Kp.of hb2
   have HR2 := hide ho2.rd
   obtain ⟨A2, n2, c2, rfl⟩ := ho2.rd.slice
   have x2 := hk2.cell HX0.out
   clear ho2 hb2
   go_wp2_with fail
   refine (HAW.out _ _ (HOP.out.kp hk2)).mono ?_
   rintro e w3 ⟨v3, u3, rfl, hr3, hu3, hb3⟩
   have hk3 := Kp.of hb3
   have hk13 := hk2.trans hk3
   have HRA := hide hu3
   have y3 := hk13.cell HY.out
   have x3 := hk13.cell HX0.out
   clear hr3 hu3 hb3
   go_wp2_with fail
   refine (HGR.out _ _ _ (HOP.out.kp hk13) HRA.out).mono ?_
   rintro e w4 ⟨pT, rfl, ht4, hb4⟩
   have hk4 := Kp.of hb4
   have HT4 := hide ht4
   clear ht4 hb4
   have HA : Hid (ansW l ops ws = (l, ops, errB 1)) := hide (by rw [HA0.out, HS5.out])
   have x4 := hk4.cell x3
   have hk14 := hk13.trans hk4
   go_wp2_with fail
   go_wp2
   go_ret3
   exact ⟨_, _, by rw [HA.out, errB_one]; rfl, by rw [HA.out]; exact HL.out.kp hk14, by rw [HA.out]; exact HOP.out.kp hk14, HK1.out.trans hk14⟩
  ·have c1 : (s1.toList == [103, 114, 111, 119]) = false := beq_eq_false_iff_ne.2 (fun e => g1 (hs1l.symm.trans e))
   by_cases g2 : s1w = zipB
   ·have c2' : (s1.toList == [122, 105, 112]) = true := beq_iff_eq.2 (hs1l.trans g2)
    obtain ⟨TT, hTT⟩ : ∃ TT, TT = heapTree (ks.map zk) := ⟨_, rfl⟩
    have hrt : refT ks ops s1w = some TT := by rw [HREF.out, if_neg g1, if_pos g2, hTT]
    have HL5 := hide (HLK.out TT hrt)
    have HS5 := hide (HSOME.out TT hrt)
    rw [<- hTT] at HZT
    clear hTT hrt g1 g2 hs1l
    go_enter Tryz.func22, Tryz.ntmps22
    go_wp2_with fail
    rw [<- hW1]
    refine HI.out.mono ?_
    rintro e w1' ⟨rfl, hw1'⟩
    rw [hw1']
    clear x1 hw1' hW1
    go_wp2_with fail
    refine (HMK.out _ _ HL.out).mono ?_
    rintro e w2 ⟨v2, rfl, ho2, hb2⟩
    have hk2 := Kp.of hb2
    have HR2 := hide ho2.rd
    obtain ⟨A2, n2, c2, rfl⟩ := ho2.rd.slice
    have x2 := hk2.cell HX0.out
    clear ho2 hb2
    go_wp2_with fail
    refine (HAW.out _ _ (HOP.out.kp hk2)).mono ?_
    rintro e w3 ⟨v3, u3, rfl, hr3, hu3, hb3⟩
    have hk3 := Kp.of hb3
    have hk13 := hk2.trans hk3
    have HRA := hide hu3
    have y3 := hk13.cell HY.out
    have x3 := hk13.cell HX0.out
    clear hr3 hu3 hb3
    go_wp2_with fail
    refine (HZT.out _ _ (HR2.out.kp hk3)).mono ?_
    rintro e w4 ⟨pT, rfl, ht4, hb4⟩
    have hk4 := Kp.of hb4
    have HT4 := hide ht4
    clear ht4 hb4
    have HA : Hid (ansW l ops ws = (l, ops, errB 1)) := hide (by rw [HA0.out, HS5.out])
    have x4 := hk4.cell x3
    have hk14 := hk13.trans hk4
    go_wp2_with fail
    go_wp2
    go_ret3
    exact ⟨_, _, by rw [HA.out, errB_one]; rfl, by rw [HA.out]; exact HL.out.kp hk14, by rw [HA.out]; exact HOP.out.kp hk14, HK1.out.trans hk14⟩
   ·have c2' : (s1.toList == [122, 105, 112]) = false := beq_eq_false_iff_ne.2 (fun e => g2 (hs1l.symm.trans e))
    by_cases g3 : s1w = goatB
    ·have c3' : (s1.toList == [103, 111, 97, 116]) = true := beq_iff_eq.2 (hs1l.trans g3)
     obtain ⟨S, hS⟩ : ∃ S, S = gtT (opsZ ops) := ⟨_, rfl⟩
     obtain ⟨TT, hTT⟩ : ∃ TT, TT = skel S.T := ⟨_, rfl⟩
     have hrt : refT ks ops s1w = some TT := by rw [HREF.out, if_neg g1, if_neg g2, if_pos g3, hTT, hS]
     have HL5 := hide (HLK.out TT hrt)
     have HS5 := hide (HSOME.out TT hrt)
     rw [<- hS] at HGO
     unfold GgdPost at HGO
     rw [<- hTT] at HGO
     clear hTT hrt g1 g2 g3 hs1l hS
     go_enter Tryz.func22, Tryz.ntmps22
     go_wp2_with fail
     rw [<- hW1]
     refine HI.out.mono ?_
     rintro e w1' ⟨rfl, hw1'⟩
     rw [hw1']
     clear x1 hw1' hW1
     go_wp2_with fail
     refine (HMK.out _ _ HL.out).mono ?_
     rintro e w2 ⟨v2, rfl, ho2, hb2⟩
     have hk2 := Kp.of hb2
     have HR2 := hide ho2.rd
     obtain ⟨A2, n2, c2, rfl⟩ := ho2.rd.slice
     have x2 := hk2.cell HX0.out
     clear ho2 hb2
     go_wp2_with fail
     refine (HAW.out _ _ (HOP.out.kp hk2)).mono ?_
     rintro e w3 ⟨v3, u3, rfl, hr3, hu3, hb3⟩
     have hk3 := Kp.of hb3
     have hk13 := hk2.trans hk3
     have HRA := hide hu3
     have y3 := hk13.cell HY.out
     have x3 := hk13.cell HX0.out
     clear hr3 hu3 hb3
     go_wp2_with fail
     refine (HGO.out _ _ _ (HOP.out.kp hk13) HRA.out).mono ?_
     rintro e w4 ⟨pT, rfl, ht4, hb4⟩
     have hk4 := Kp.of hb4
     have HT4 := hide ht4
     clear ht4 hb4
     have HA : Hid (ansW l ops ws = (l, ops, errB 1)) := hide (by rw [HA0.out, HS5.out])
     have x4 := hk4.cell x3
     have hk14 := hk13.trans hk4
     go_wp2_with fail
     go_wp2
     go_ret3
     exact ⟨_, _, by rw [HA.out, errB_one]; rfl, by rw [HA.out]; exact HL.out.kp hk14, by rw [HA.out]; exact HOP.out.kp hk14, HK1.out.trans hk14⟩
    ·have c3' : (s1.toList == [103, 111, 97, 116]) = false := beq_eq_false_iff_ne.2 (fun e => g3 (hs1l.symm.trans e))
     by_cases g4 : s1w = evenB
     ·have c4' : (s1.toList == [101, 118, 101, 110]) = true := beq_iff_eq.2 (hs1l.trans g4)
      obtain ⟨TT, hTT⟩ : ∃ TT, TT = skel (evenT ks) := ⟨_, rfl⟩
      have hrt : refT ks ops s1w = some TT := by rw [HREF.out, if_neg g1, if_neg g2, if_neg g3, if_pos g4, hTT]
      have HL5 := hide (HLK.out TT hrt)
      have HS5 := hide (HSOME.out TT hrt)
      rw [<- hTT] at HEV
      clear hTT hrt g1 g2 g3 g4 hs1l
      go_enter Tryz.func22, Tryz.ntmps22
      go_wp2_with fail
      rw [<- hW1]
      refine HI.out.mono ?_
      rintro e w1' ⟨rfl, hw1'⟩
      rw [hw1']
      clear x1 hw1' hW1
      go_wp2_with fail
      refine (HMK.out _ _ HL.out).mono ?_
      rintro e w2 ⟨v2, rfl, ho2, hb2⟩
      have hk2 := Kp.of hb2
      have HR2 := hide ho2.rd
      obtain ⟨A2, n2, c2, rfl⟩ := ho2.rd.slice
      have x2 := hk2.cell HX0.out
      clear ho2 hb2
      go_wp2_with fail
      refine (HAW.out _ _ (HOP.out.kp hk2)).mono ?_
      rintro e w3 ⟨v3, u3, rfl, hr3, hu3, hb3⟩
      have hk3 := Kp.of hb3
      have hk13 := hk2.trans hk3
      have HRA := hide hu3
      have y3 := hk13.cell HY.out
      have x3 := hk13.cell HX0.out
      clear hr3 hu3 hb3
      go_wp2_with fail
      refine (HEV.out _ _ (HR2.out.kp hk3)).mono ?_
      rintro e w4 ⟨pT, rfl, ht4, hb4⟩
      have hk4 := Kp.of hb4
      have HT4 := hide ht4
      clear ht4 hb4
      have HA : Hid (ansW l ops ws = (l, ops, errB 1)) := hide (by rw [HA0.out, HS5.out])
      have x4 := hk4.cell x3
      have hk14 := hk13.trans hk4
      go_wp2_with fail
      go_wp2
      go_ret3
      exact ⟨_, _, by rw [HA.out, errB_one]; rfl, by rw [HA.out]; exact HL.out.kp hk14, by rw [HA.out]; exact HOP.out.kp hk14, HK1.out.trans hk14⟩
     ·have c4' : (s1.toList == [101, 118, 101, 110]) = false := beq_eq_false_iff_ne.2 (fun e => g4 (hs1l.symm.trans e))
      have hrt : refT ks ops s1w = none := by rw [HREF.out, if_neg g1, if_neg g2, if_neg g3, if_neg g4]
      have HA : Hid (ansW l ops ws = (l, ops, errB 1)) := hide (by rw [HA0.out, HNONE.out hrt])
      clear hrt g1 g2 g3 g4 hs1l
      go_enter Tryz.func22, Tryz.ntmps22
      go_wp2_with fail
      rw [<- hW1]
      refine HI.out.mono ?_
      rintro e w1' ⟨rfl, hw1'⟩
      rw [hw1']
      clear x1 hw1' hW1
      go_wp2_with fail
      refine (HMK.out _ _ HL.out).mono ?_
      rintro e w2 ⟨v2, rfl, ho2, hb2⟩
      have hk2 := Kp.of hb2
      have HR2 := hide ho2.rd
      obtain ⟨A2, n2, c2, rfl⟩ := ho2.rd.slice
      have x2 := hk2.cell HX0.out
      clear ho2 hb2
      go_wp2_with fail
      refine (HAW.out _ _ (HOP.out.kp hk2)).mono ?_
      rintro e w3 ⟨v3, u3, rfl, hr3, hu3, hb3⟩
      have hk3 := Kp.of hb3
      have hk13 := hk2.trans hk3
      have HRA := hide hu3
      have y3 := hk13.cell HY.out
      have x3 := hk13.cell HX0.out
      clear hr3 hu3 hb3
      go_wp2_with fail
      go_wp2
      go_ret3
      exact ⟨_, _, by rw [HA.out, errB_one]; rfl, by rw [HA.out]; exact HL.out.kp hk13, by rw [HA.out]; exact HOP.out.kp hk13, HK1.out.trans hk13⟩
theorem deskLine_any (l : List IP) (ops : List O3) (ws : List ByteArray) (v u vw : Value) (w : World) (hl : RD w ePair v l) (ho : RD w eOp u ops) (hw : RD w eStr vw ws) (hin : DkIn l ops) (hn : ops.length <= 200)
  (hss : ∀ s ∈ ws, s.size <= 9223372036854775807) (hne : ∀ s ∈ ws, s ≠ ByteArray.empty) (h0 : ws ≠ []) (hwl : ws.length <= 4294967296) :
  Calls Tryz.prog 22 #[v, u, vw] w (LiPost (ansW l ops ws) w) := by
 have hk0 : 0 <= kOf ws := (kind_in _).1
 by_cases hk1 : kOf ws = 1
 ·exact li_put l ops ws v u vw w hl ho hw hin hn hss hne h0 hwl hk1
 ·by_cases hk2 : 1 < kOf ws
  ·exact li_else l ops ws v u vw w hl ho hw hin hn hss hne h0 hwl hk2
  ·have hk : kOf ws = 0 := by omega
   by_cases h1 : wAt ws 0 = rowsB /\ ws.length = 1
   ·exact li_rows l ops ws v u vw w hl ho hw hin hn hss hne h0 hwl hk h1.1 h1.2
   ·by_cases hlen : ws.length = 2
    ·by_cases hp : wAt ws 0 = pathB
     ·exact li_path l ops ws v u vw w hl ho hw hin hn hss hne h0 hwl hk hlen hp
     ·by_cases ht' : wAt ws 0 = treeB
      ·exact li_tree l ops ws v u vw w hl ho hw hin hn hss hne h0 hwl hk hlen ht'
      ·by_cases hd : wAt ws 0 = deepB
       ·exact li_deep l ops ws v u vw w hl ho hw hin hn hss hne h0 hwl hk hlen hd
       ·exact li_no l ops ws v u vw w hl ho hw hin hn hss hne h0 hwl hk hlen hp ht' hd
    ·exact li_len l ops ws v u vw w hl ho hw hin hn hss hne h0 hwl hk h1 hlen
end Go.Proofs.YtcljlnagpjilaaaGreatDoor
