/-
  skip.Path, Rows, Run: what they answer
  desk.path: what it answers
  strings.Join and desk.rows: what they answer
-/
import Derived.Test.YtcljlnagpjilaaaGreatDoorG15
import Derived.Test.YtcljlnagpjilaaaGreatDoorG3
import Derived.Test.YtcljlnagpjilaaaGreatDoorG10
import Derived.Test.YtcljlnagpjilaaaGreatDoorG16

set_option linter.unusedVariables false
set_option linter.unusedSimpArgs false
set_option maxRecDepth 100000
set_option maxHeartbeats 8000000
namespace Go.Proofs.YtcljlnagpjilaaaGreatDoor
open Go.ChangeShapes Go.WideShapes Go.ChangeAt Go.RowKit
theorem path1_any (g B : Nat) (r b : Nat) (k : Int) (acc : List IP) (w : World) (hl : acc.length <= 3000) (x0 : w.cell? ⟨b, 0, none⟩ = some (.int .i64 k)) (hbt : SkB w b) (ho : OB w B g 93 96 ePair acc) (hB : B <= w.heap.size) :
  Calls Tryz.prog 117 #[.int .i64 (r : Int), .pointer (some ⟨b, 0, none⟩), .pointer (some ⟨g, 0, none⟩)] w (WPost B g 93 96 ePair (.tuple #[]) (acc ++ [((r : Int), k)]) w) := by
 have HO := hide ho
 obtain ⟨u, hb, hu, hn⟩ := ho
 have HBh := hide hB
 have HM1 : Hid ((acc.length + [(((r : Int), k) : IP)].length) * 16 <= 140737488355328) := hide (by simp; omega)
 have HM2 : Hid (acc.length + [(((r : Int), k) : IP)].length <= maxLen) := hide (by simp [maxLen]; omega)
 have hblk : u.ownBlock ≠ some b := by
  obtain ⟨t, cs, ht, hc⟩ := hbt
  exact hu.bc_ne hc (by rcases ht with rfl | rfl | rfl <;> decide)
 clear hbt
 have KS : Hid (∀ W', KV u w W' -> (W'.cell? ⟨b, 0, none⟩ = some ((.int .i64 k)) /\ W'.cell? ⟨g, 0, none⟩ = some u /\ W'.frozen? ⟨g, 0, none⟩ = false /\ KV u w W')) := hide fun W' h => ⟨h.cell hblk x0, h.cell hn (hb.cell 0), (h.frozen hb.lt hn).trans (hb.frozen 0), h⟩
 have g0 := hb.cell 0
 have f0 := hb.frozen 0
 have L1 : ∀ n o, ((w.drewN n).alloc o).cell? ⟨g, 0, none⟩ = some u := fun n o => ((Kp.refl w).drewN.alloc).cell g0
 have L2 : ∀ n o', ((w.drewN n).alloc o').cell? ⟨b, 0, none⟩ = some ((.int .i64 k)) := fun n o' => ((Kp.refl w).drewN.alloc).cell x0
 have L3 : ∀ o, (w.drew.alloc o).cell? ⟨g, 0, none⟩ = some u := fun o => ((Kp.refl w).drew.alloc).cell g0
 have L4 : ∀ o', (w.drew.alloc o').cell? ⟨b, 0, none⟩ = some ((.int .i64 k)) := fun o' => ((Kp.refl w).drew.alloc).cell x0
 have L5 : ∀ o, ((w.alloc o).drew).cell? ⟨g, 0, none⟩ = some u := fun o => ((Kp.refl w).alloc.drew).cell g0
 have L6 : ∀ o', ((w.alloc o').drew).cell? ⟨b, 0, none⟩ = some ((.int .i64 k)) := fun o' => ((Kp.refl w).alloc.drew).cell x0
 have L7 : ∀ o, (w.alloc o).cell? ⟨g, 0, none⟩ = some u := fun o => ((Kp.refl w).alloc).cell g0
 have L8 : ∀ o', (w.alloc o').cell? ⟨b, 0, none⟩ = some ((.int .i64 k)) := fun o' => ((Kp.refl w).alloc).cell x0
 go_enter Tryz.func117, Tryz.ntmps117
 go_wp2_with fail
 go_region_law (((with_reducible refine step_app (l := acc) (m := [(((r : Int), k) : IP)]) row_stop u ?_ (.tmp 5) (.tmp 13) ?_ ?_ ?_ ?_ HM1.out HM2.out (Nat.le_trans HBh.out (KV.size (w := w) (v := u) ?_)) ?_); (with_reducible rfl); (with_reducible rfl); rfl; (exact OW.auto); (show RD _ _ (.slice (some ⟨_, 0, none⟩) 1 1) _; (exact RD.auto)); (go_split_ands; (focus ((repeat (first | (with_reducible first | assumption | exact KV.refl _ _ | apply KV.drew | apply KV.drewN | apply KV.alloc) | ((with_reducible apply KV.call); (with_reducible assumption)) | ((with_reducible apply KV.app); (with_reducible assumption)))); done))); intro v3 w3 ho3 hg3 hat3; obtain ⟨_, sc3, sf3, _⟩ := KS.out w3 (by go_split_ands; (focus ((repeat (first | (with_reducible first | assumption | exact KV.refl _ _ | apply KV.drew | apply KV.drewN | apply KV.alloc) | ((with_reducible apply KV.call); (with_reducible assumption)) | ((with_reducible apply KV.app); (with_reducible assumption)))); done))); obtain ⟨A3, N3, c3, rfl⟩ := ho3.rd.slice))
 all_goals
  have hat9 := hat3.imp id (fun e => show Hi w.heap.size (Value.slice A3 N3 c3) from fun k hk => by rw [e] at hk; injection hk with hk; subst hk; simp <;> omega)
  obtain ⟨ho4, hk4⟩ := ob_app hb hu hn (show KV u w w3 by (focus ((repeat (first | (with_reducible first | assumption | exact KV.refl _ _ | apply KV.drew | apply KV.drewN | apply KV.alloc) | ((with_reducible apply KV.call); (with_reducible assumption)) | ((with_reducible apply KV.app); (with_reducible assumption)))); done))) ho3 hat9
  clear hat9 hat3 hg3 ho3 sc3 sf3 L1 L2 L3 L4 L5 L6 L7 L8 g0 f0
  have HO7 := hide ho4
  have HK7 := hide hk4
  clear ho4 hk4
  go_wp2
  refine bodyPost_end (v := .tuple #[]) ?_ ?_ ?_
  ·simp [results, Tryz.results117, go_sem]
  ·rfl
  ·exact ⟨rfl, HO7.out, HK7.out⟩
section
variable (gv : Nat)
theorem find_path (s : Nat) (ts : List Tw) (key : Int) (w : World) (B B0 : Nat) (I : World -> List IP -> Prop) (hsk : SK w s ts B) (hB : B0 <= w.heap.size) (hi : I w [])
  (hcall : ∀ W st r i, st.length <= 3000 -> I W st -> KW B0 w W -> i < ts.length -> SK W s ts B -> Calls Tryz.prog 117 #[.int .i64 (r : Nat), .pointer (some ⟨(tw ts i).b, 0, none⟩), .pointer (some ⟨gv, 0, none⟩)] W (fun e W' => e = .returned (.tuple #[]) /\ I W' (st ++ [(((r : Nat) : Int), (tw ts i).p.1)]) /\ KW B0 W W'))
  (hset : ∀ W W' st, I W st -> KN2 W W' -> I W' st) :
  Calls Tryz.prog 116 #[.pointer (some ⟨s, 0, none⟩), .int .i64 key, .func (.func 117) #[] #[.pointer (some ⟨gv, 0, none⟩)]] w (FiPost s ts key w B0 I) := by
 have HSK := hide hsk
 have HCALL := hide hcall
 have HSET := hide hset
 have c0 : w.cell? ⟨s, 0, none⟩ = some (.pointer (some ⟨(tw ts 0).b, 0, none⟩)) := hsk.stk.cell 0
 have hslt := hsk.stk.lt
 have hlen := hsk.len
 have hpos := hsk.pos
 have HI0 := hide (hset w ((w.alloc (.cells trZ.toArray 169)).alloc (.cells trZ.toArray 169)) [] hi (Kf.of (Kp.refl w).alloc.alloc))
 have HB7 : Hid (BC ((w.alloc (.cells trZ.toArray 169)).alloc (.cells trZ.toArray 169)) (w.heap.size + 1) 169 trZ) := hide (by have h := BC.new (w.alloc (.cells trZ.toArray 169)) 169 trZ; rwa [show (w.alloc (.cells trZ.toArray 169)).heap.size = w.heap.size + 1 by simp] at h)
 have HB6 := hide ((BC.new w 169 trZ).kp (Kp.refl _).alloc (w' := (w.alloc (.cells trZ.toArray 169)).alloc (.cells trZ.toArray 169)))
 clear hsk hcall hset hi
 go_enter Tryz.func116, Tryz.ntmps116
 go_wp2
 go_loopw [8, 9, 10, 11] (FiRel s ts key w B0 I) (fun _ _ k _ _ => (intOf k + 1).toNat)
 case atStart => exact ⟨12, by omega, by rw [pF_12 HSK.out], by rw [pF_12 HSK.out]; rfl, rfl, by rw [trC_12]; exact HB7.out, HB6.out, HI0.out, (KW.refl B0 w).alloc.alloc⟩
 case round =>
  obtain ⟨j, hj, rfl, rfl, rfl, hb7, hb6, hI, hkw⟩ := hrel
  have HKW := hide hkw
  have HSKr := hide (HSK.out.kw hkw)
  have BC7 := hide hb7
  have BC6 := hide hb6
  have HI := hide hI
  clear hb7 hb6 hI hkw
  cases j with
  | zero =>
   have B7H : wr.heap[w.heap.size + 1]? = some (.cells (trC ts key 0).toArray tR (0, 0)) := BC7.out
   have B6H : wr.heap[w.heap.size]? = some (.cells trZ.toArray tR (0, 0)) := BC6.out
   have IT := info_trail ts key (j := 0)
   have T1 := trC_one ts key 0
   have TZ : trZ.toArray.size = (trC ts key 0).toArray.size := by simp [trC_len, trZ]
   go_wp2_with (first
    | ((with_reducible refine wpList_load_row ?_ 169 (.tmp 7) ?_ (w.heap.size + 1) ?_ tR (trC ts key 0).toArray (0, 0) _ B7H Tryz.underlying169 ?_ IT ?_); (with_reducible rfl); (with_reducible rfl); rfl; rfl)
    | ((with_reducible refine wpList_store_row ?_ 169 (.tmp 6) (.tmp 66) ?_ w.heap.size (trC ts key 0).toArray ?_ ?_ tR trZ.toArray B6H IT TZ T1 ?_); (with_reducible rfl); (with_reducible rfl); rfl; rfl))
   refine bodyPost_ret (v := .agg (trC ts key 0).toArray) ?_ ?_ ?_
   ·exact results_cell_row rfl _ _ w.heap.size tR (trC ts key 0).toArray (0, 0) _ rfl (setRow_heap _ _ _ _ _ _ BC6.out) Tryz.underlying169 rfl (info_trail _ _)
   ·rfl
   ·exact ⟨rfl, HSET.out _ _ _ HI.out (KN2.setRow BC6.out _), HKW.out.setRow hB (Nat.le_refl _) _⟩
  | succ r =>
   have e0 : ((r + 1 : Nat) : Int) - 1 = (r : Int) := by omega
   rw [e0]
   have hr12 : r < 12 := by omega
   obtain ⟨hi0, hr0, hl0⟩ := pF_ok (key := key) HSKr.out hr12
   obtain ⟨i0, hi0e⟩ : ∃ i0, i0 = pF ts key (r + 1) := ⟨_, rfl⟩
   have HI0E := hide hi0e
   rw [<- hi0e] at hi0 hr0 hl0 ⊢
   have HL0 := hide hl0
   have d2 := (HSKr.out.f.tower hi0).2.2
   obtain ⟨l0, l1⟩ := HSKr.out.f.link hi0 hr0
   obtain ⟨x0, hx0⟩ : ∃ x, x = (lnk ts i0 r).1 := ⟨_, rfl⟩
   obtain ⟨y0, hy0⟩ : ∃ y, y = (lnk ts i0 r).2 := ⟨_, rfl⟩
   rw [<- hx0] at l0
   rw [<- hy0] at l1
   have HX0 := hide (And.intro hx0 hy0)
   clear hi0e hl0 hx0 hy0 e0
   go_wp2
   have hsz := BC7.out.lt
   go_loopw [8, 9, 11] (FjRel s ts key w B0 I r) (fun _ pv _ _ => ts.length - (intOf pv).toNat)
   case atStart => exact ⟨i0, wr.heap.size, hi0, hr0, HL0.out, by rw [<- HI0E.out]; exact Nat.le_refl _, rfl, rfl, rfl, by omega, by rw [<- HX0.out.1, <- HX0.out.2]; exact BC.new _ _ _, BC7.out.kp (Kp.refl _).alloc, BC6.out.kp (Kp.refl _).alloc, by rw [<- HI0E.out, stopsAt_self, List.append_nil]; exact HSET.out _ _ _ HI.out (Kf.of (Kp.refl _).alloc), HKW.out.alloc⟩
   case round =>
    clear HSKr BC7 BC6 HI HKW HL0 d2 l0 l1 HX0 hsz hi0 hr0 HI0E
    obtain ⟨i, n, hi, hri, hlow, hge, rfl, rfl, rfl, hn, hbn, hb7, hb6, hI, hkw⟩ := hrel
    have HKW := hide hkw
    have HSKr := hide (HSK.out.kw hkw)
    have BC7 := hide hb7
    have BC6 := hide hb6
    have BCN := hide hbn
    have HI := hide hI
    have HLOW := hide hlow
    have n0 := hbn.cell 0
    have n1 := hbn.cell 1
    simp only [List.getElem?_cons_zero, List.getElem?_cons_succ] at n0 n1
    obtain ⟨f1, f2, f3, f4⟩ := nj_facts ts i r hi
    obtain ⟨w1, w2, w3⟩ := lnk_wide ts r hi
    have HF3 := hide f3
    clear hb7 hb6 hI hkw hbn hlow f3
    by_cases hnj : nj ts i r < ts.length
    ·have hp : (lnk ts i r).1 = some ⟨(tw ts (nj ts i r)).b, 0, none⟩ := by unfold lnk; rw [if_pos hnj]
     have hw := w3 hnj
     have hr2 := f4 hnj
     have HNX := hide (stopsAt_next ts r (pF ts key (r + 1)) i hi hge hnj)
     obtain ⟨q, hq⟩ : ∃ q, q = nj ts i r := ⟨_, rfl⟩
     have HQ := hide hq
     obtain ⟨y, hy⟩ : ∃ y, y = (lnk ts i r).2 := ⟨_, rfl⟩
     have HY := hide hy
     rw [hp, <- hq] at n0
     rw [<- hy] at n1 hw
     rw [<- hq] at hw hr2 hnj f1
     have c1 := (HSKr.out.f.tower hnj).1
     have HP := hide hp
     clear hp hq hy w1 w2 w3 f2 f4
     by_cases hk : (tw ts q).p.1 < key
     ·have s1 : IntKind.i64.wrap ((i : Int) + (y : Int)) = ((q : Nat) : Int) := by rw [IntWalk.i64_in _ (by omega)]; omega
      have d1 : decide ((tw ts q).p.1 < key) = true := decide_eq_true hk
      have HCC := hide (fun W st c a b d => HCALL.out W st r q c a b hnj d)
      have HSL := hide (stops_len ts key r i (by omega) hr12 (by omega))
      go_wp2_with (go_at_call 117; ((with_reducible refine (HCC.out _ _ HSL.out HI.out HKW.out HSKr.out).mono ?_); rintro e w5 ⟨rfl, hi5, hk5⟩); have HKW5 := hide (HKW.out.trans hk5); have HSK5 := hide (HSKr.out.kw hk5); have BC75 := hide (hk5.1 _ _ _ (.inr (.inr (.inr rfl))) BC7.out); have BC65 := hide (hk5.1 _ _ _ (.inr (.inr (.inr rfl))) BC6.out); have BCN5 := hide (hk5.1 _ _ _ (.inr (.inl rfl)) BCN.out); have HI5 : Hid (I w5 (stopsN ts key (12 - (r + 1)) ++ stopsAt ts r (pF ts key (r + 1)) q)) := hide (by have h := hi5; rw [List.append_assoc, HQ.out, <- HNX.out, <- HQ.out] at h; exact h); have m0 := BCN5.out.cell 0; have m1 := BCN5.out.cell 1; simp only [List.getElem?_cons_zero, List.getElem?_cons_succ] at m0 m1; have d2 := (HSK5.out.f.tower hnj).2.2; obtain ⟨l0, l1⟩ := HSK5.out.f.link hnj hr2; have blt1 := (HSK5.out.f.tow _ hnj).lt; have blt2 := (HSK5.out.f.lkb _ hnj).lt; obtain ⟨x0, hx0⟩ : ∃ x, x = (lnk ts q r).1 := ⟨_, rfl⟩; obtain ⟨y0, hy0⟩ : ∃ y, y = (lnk ts q r).2 := ⟨_, rfl⟩; rw [<- hx0] at l0; rw [<- hy0] at l1; have HX0 := hide (And.intro hx0 hy0); have HNS := hide (show n < w5.heap.size from BCN5.out.lt); clear hi5 hk5 hx0 hy0 n0 n1 c1)
      go_roundw
      case rel =>
       exact ⟨q, w5.heap.size, hnj, hr2, .inr hk, by omega, rfl, rfl, rfl, by have := HNS.out; omega, by rw [<- HX0.out.1, <- HX0.out.2]; exact BC.new _ _ _, BC75.out.kp (Kp.refl _).alloc, BC65.out.kp (Kp.refl _).alloc, HSET.out _ _ _ HI5.out (Kf.of (Kp.refl _).alloc), HKW5.out.alloc⟩
      case measure => simp [intOf]; omega
     ·have d1 : decide ((tw ts q).p.1 < key) = false := decide_eq_false hk
      have hP : pF ts key r = i := IsP.eq ⟨hi, hri, HLOW.out, fun m g1 g2 g3 => (by
       by_cases e : m = q
       ·subst e; omega
       ·by_cases e2 : m < q
        ·have := HF3.out m g1 (by rw [<- HQ.out]; exact e2); omega
        ·have := HSK.out.up q m (by omega) (by omega) g2; omega)⟩ (.inr trivial)
      have HP := hide hP
      obtain ⟨v1, hv1⟩ : ∃ v, wr.cell? ⟨w.heap.size + 1, r, none⟩ = some v := ⟨_, (BC7.out.cell r).trans (List.getElem?_eq_getElem (by rw [trC_len]; omega))⟩
      obtain ⟨v2, hv2⟩ : ∃ v, wr.cell? ⟨w.heap.size + 1, 12 + r, none⟩ = some v := ⟨_, (BC7.out.cell (12 + r)).trans (List.getElem?_eq_getElem (by rw [trC_len]; omega))⟩
      have fz1 := BC7.out.frozen r
      have fz2 := BC7.out.frozen (12 + r)
      have s5 : IntKind.i64.wrap ((r : Int) - 1) = (r : Int) - 1 := IntWalk.i64_in _ (by omega)
      clear hP
      go_wp2
      go_roundw
      case rel =>
       have h7 := (BC7.out.set (j := r) (u := .pointer (some ⟨(tw ts i).b, 0, none⟩))).set (j := 12 + r) (u := .int .i64 (i : Nat))
       rw [trC_set ts key r i hr12 HP.out] at h7
       exact ⟨r, by omega, by rw [HP.out], by rw [HP.out], rfl, h7, (BC6.out.far (by simp)).far (by simp), by rw [stopsN_next ts key r hr12, HP.out]; exact HSET.out _ _ _ HI.out (Kf.set (Kf.set (Kf.refl _ _) (.inl ⟨_, _, .inr rfl, BC7.out⟩)) (.inl ⟨_, _, .inr rfl, BC7.out⟩)), (HKW.out.set hB (by simp)).set hB (by simp)⟩
      case measure => (simp [intOf] <;> omega)
    ·have hp : (lnk ts i r).1 = none := by unfold lnk; rw [if_neg hnj]
     rw [hp] at n0
     have hP : pF ts key r = i := IsP.eq ⟨hi, hri, HLOW.out, fun m g1 g2 g3 => (by
      have := HF3.out m g1 (by omega); omega)⟩ (.inr trivial)
     clear hp
     have HP := hide hP
     obtain ⟨v1, hv1⟩ : ∃ v, wr.cell? ⟨w.heap.size + 1, r, none⟩ = some v := ⟨_, (BC7.out.cell r).trans (List.getElem?_eq_getElem (by rw [trC_len]; omega))⟩
     obtain ⟨v2, hv2⟩ : ∃ v, wr.cell? ⟨w.heap.size + 1, 12 + r, none⟩ = some v := ⟨_, (BC7.out.cell (12 + r)).trans (List.getElem?_eq_getElem (by rw [trC_len]; omega))⟩
     have fz1 := BC7.out.frozen r
     have fz2 := BC7.out.frozen (12 + r)
     have s5 : IntKind.i64.wrap ((r : Int) - 1) = (r : Int) - 1 := IntWalk.i64_in _ (by omega)
     clear hP
     go_wp2
     go_roundw
     case rel =>
      have h7 := (BC7.out.set (j := r) (u := .pointer (some ⟨(tw ts i).b, 0, none⟩))).set (j := 12 + r) (u := .int .i64 (i : Nat))
      rw [trC_set ts key r i hr12 HP.out] at h7
      exact ⟨r, by omega, by rw [HP.out], by rw [HP.out], rfl, h7, (BC6.out.far (by simp)).far (by simp), by rw [stopsN_next ts key r hr12, HP.out]; exact HSET.out _ _ _ HI.out (Kf.set (Kf.set (Kf.refl _ _) (.inl ⟨_, _, .inr rfl, BC7.out⟩)) (.inl ⟨_, _, .inr rfl, BC7.out⟩)), (HKW.out.set hB (by simp)).set hB (by simp)⟩
     case measure => (simp [intOf] <;> omega)
end
def FpPost (gv B : Nat) (ts : List Tw) (key : Int) (w : World) (e : Ending) (w' : World) : Prop := e = .returned (.agg (trC ts key 0).toArray) /\ OB w' B gv 93 96 ePair (stopsN ts key 12) /\ ∀ a : World, a.heap.size <= B -> Kp a w -> Kp a w'
theorem find_pathK (gv : Nat) (s : Nat) (ts : List Tw) (key : Int) (w : World) (B0 B : Nat) (h : SK w s ts B0) (hB : B <= w.heap.size) (hg : B <= gv) (ho : OB w B gv 93 96 ePair ([] : List IP)) :
  Calls Tryz.prog 116 #[.pointer (some ⟨s, 0, none⟩), .int .i64 key, .func (.func 117) #[] #[.pointer (some ⟨gv, 0, none⟩)]] w (FpPost gv B ts key w) := by
 refine (find_path gv s ts key w B0 B (fun W st => OB W B gv 93 96 ePair st) h hB ho (fun W st r i hl hi hk hil hsk => ?_) (fun W W' st hi hk => ?_)).mono ?_
 ·refine (path1_any gv B r _ _ st W hl (hsk.f.tower hil).1 (hsk.f.tb hil) hi (Nat.le_trans hB hk.2.1)).mono ?_
  rintro e w' ⟨rfl, ho', hko⟩
  refine ⟨rfl, ho', fun i cs t ht hb => ?_, hko.size, fun a ha hka => hi.kp0 hko hka ha hg⟩
  refine hb.ko hi hko ?_ ?_ <;> rcases ht with rfl | rfl | rfl | rfl <;> decide
 ·obtain ⟨v, hb, hv, hn⟩ := hi
  refine ⟨v, hb.kf hk ?_, hv.kf hk ?_, hn⟩
  ·rintro ⟨t, cs, ht, hc⟩
   refine hb.ne hc ?_ rfl
   rcases ht with rfl | rfl <;> decide
  ·rintro k hk2 ⟨t, cs, ht, hc⟩
   refine hv.bc_ne hc ?_ hk2
   rcases ht with rfl | rfl <;> decide
 ·rintro e w' ⟨rfl, ho', hk⟩
  exact ⟨rfl, ho', fun a ha hka => hk.2.2 a ha hka⟩
def laT (ts : List Tw) (i : Nat) : Int := if i = 0 then -1 else (tw ts i).p.1
theorem stops_all {w : World} {s : Nat} {ts : List Tw} {B : Nat} (h : SK w s ts B) (h0 : ∀ i, 0 < i -> i < ts.length -> 0 <= (tw ts i).p.1) (key : Int) : ∀ n, n <= 12 -> stAll (keysT ts) key n = (stopsN ts key n, laT ts (pF ts key (12 - n)))
 | 0, _ => by
  rw [stAll, stopsN, show 12 - 0 = 12 from rfl, pF_12 h]; rfl
 | n + 1, hn => by
  have ih := stops_all h h0 key n (by omega)
  have hlen := h.len
  obtain ⟨r, hr⟩ : ∃ r, r = 11 - n := ⟨_, rfl⟩
  have e1 : 12 - n = r + 1 := by omega
  have e2 : 12 - (n + 1) = r := by omega
  rw [stAll, ih, stopsN, <- hr, e1, e2]
  simp only
  obtain ⟨a1, a2, a3⟩ := pF_ok (key := key) h (r := r) (by omega)
  obtain ⟨b1, b2, b3, b4⟩ := isP_pF (key := key) h (r := r) (by omega)
  obtain ⟨a, ha⟩ : ∃ a, a = pF ts key (r + 1) := ⟨_, rfl⟩
  obtain ⟨b, hb⟩ : ∃ b, b = pF ts key r := ⟨_, rfl⟩
  rw [<- ha] at a1 a2 a3 ⊢
  rw [<- hb] at b1 b2 b3 b4 ⊢
  have hab : a <= b := by
   by_cases e : b < a
   ·have := b4 a e a1 a2
    rcases a3 with a3 | a3 <;> omega
   ·omega
  have hst : stRow (keysT ts) key (laT ts a) r = ((List.range' (a + 1) (b - a)).filter fun m => decide (r < (tw ts m).h)).map fun m => (tw ts m).p.1 := by
   unfold stRow stL
   rw [<- rowT_all h r]
   unfold rowT
   have es : List.range' 1 (ts.length - 1) = List.range' 1 a ++ List.range' (a + 1) (b - a) ++ List.range' (b + 1) (ts.length - 1 - b) := by
    have g1 := @List.range'_append 1 a (b - a) 1
    have g2 := @List.range'_append 1 b (ts.length - 1 - b) 1
    rw [show 1 + 1 * a = a + 1 from by omega, show a + (b - a) = b from by omega] at g1
    rw [show 1 + 1 * b = b + 1 from by omega, show b + (ts.length - 1 - b) = ts.length - 1 from by omega] at g2
    rw [g1, g2]
   rw [List.filter_map, List.filter_filter, es, List.filter_append, List.filter_append]
   have f1 : (List.range' 1 a).filter (fun m => ((fun k => decide (laT ts a + 1 <= k /\ k <= key - 1)) ∘ fun m => (tw ts m).p.1) m && decide (r < (tw ts m).h)) = [] := by
    rw [List.filter_eq_nil_iff]
    intro m hm
    rw [List.mem_range'_1] at hm
    have hle : (tw ts m).p.1 <= laT ts a := by
     unfold laT
     rw [if_neg (by omega)]
     by_cases e : m = a
     ·subst e; omega
     ·have := h.up m a (by omega) (by omega) a1; omega
    simp only [Function.comp, Bool.and_eq_true, decide_eq_true_eq, not_and]
    intro h1; omega
   have f3 : (List.range' (b + 1) (ts.length - 1 - b)).filter (fun m => ((fun k => decide (laT ts a + 1 <= k /\ k <= key - 1)) ∘ fun m => (tw ts m).p.1) m && decide (r < (tw ts m).h)) = [] := by
    rw [List.filter_eq_nil_iff]
    intro m hm
    rw [List.mem_range'_1] at hm
    simp only [Function.comp, Bool.and_eq_true, decide_eq_true_eq, not_and]
    intro h1 h2
    have := b4 m (by omega) (by omega) h2
    omega
   have f2 : (List.range' (a + 1) (b - a)).filter (fun m => ((fun k => decide (laT ts a + 1 <= k /\ k <= key - 1)) ∘ fun m => (tw ts m).p.1) m && decide (r < (tw ts m).h)) = (List.range' (a + 1) (b - a)).filter fun m => decide (r < (tw ts m).h) := by
    apply List.filter_congr
    intro m hm
    rw [List.mem_range'_1] at hm
    have hlo : laT ts a + 1 <= (tw ts m).p.1 := by
     unfold laT
     by_cases e : a = 0
     ·rw [if_pos e]; have := h0 m (by omega) (by omega); omega
     ·rw [if_neg e]; have := h.up a m (by omega) (by omega) (by omega); omega
    have hhi : (tw ts m).p.1 <= key - 1 := by
     have hbk : (tw ts b).p.1 < key := by rcases b3 with b3 | b3 <;> omega
     by_cases e : m = b
     ·subst e; omega
     ·have := h.up m b (by omega) (by omega) b1; omega
    have hd : decide (laT ts a + 1 <= (tw ts m).p.1 /\ (tw ts m).p.1 <= key - 1) = true := decide_eq_true ⟨hlo, hhi⟩
    simp only [Function.comp, hd, Bool.true_and]
   rw [f1, f2, f3]; simp
  rw [hst]
  refine Prod.ext ?_ ?_
  ·simp only
   unfold stopsAt
   rw [List.map_map]; rfl
  ·simp only
   unfold lastOr
   by_cases e : a = b
   ·subst e; simp
   ·have er : List.range' (a + 1) (b - a) = List.range' (a + 1) (b - a - 1) ++ [b] := by
     have g1 := @List.range'_append (a + 1) (b - a - 1) 1 1
     rw [show a + 1 + 1 * (b - a - 1) = b from by omega, show b - a - 1 + 1 = b - a from by omega] at g1
     exact g1.symm
    rw [er, List.filter_append, List.map_append]
    have : (List.filter (fun m => decide (r < (tw ts m).h)) [b]) = [b] := by simp [List.filter_cons, b2]
    rw [this, show laT ts b = (tw ts b).p.1 by unfold laT; rw [if_neg (by omega)]]
    simp
def pathOf (ks : List Int) (key : Int) : List IP × Int := if krL ks = 0 then (if 0 <= key /\ key <= 1000000 then ((stAll ks key 12).1, 0) else ([], 1)) else ([], krL ks)
theorem skPath_any (ks : List Int) (key : Int) (v : Value) (w : World) (hr : RD w eInt v ks) (hdb : DTb w) : Calls Tryz.prog 72 #[v, .int .i64 key] w (Ret2 ePair (pathOf ks key) w) := by
 have HO := hide (skOf_any ks v w hr hdb)
 unfold SoPost at HO
 have h1 : krL ks = 0 -> 0 <= key /\ key <= 1000000 -> pathOf ks key = ((stAll ks key 12).1, 0) := fun h h' => by rw [pathOf, if_pos h, if_pos h']
 have h1' : krL ks = 0 -> ¬ (0 <= key /\ key <= 1000000) -> pathOf ks key = ([], 1) := fun h h' => by rw [pathOf, if_pos h, if_neg h']
 have h2 : krL ks ≠ 0 -> pathOf ks key = ([], krL ks) := fun h => by rw [pathOf, if_neg h]
 have HIN := hide (fun h => (krL_in (l := ks) h).2.2)
 have H1 := hide h1
 have H1' := hide h1'
 have H2 := hide h2
 obtain ⟨er, her⟩ : ∃ er, er = krL ks := ⟨_, rfl⟩
 rw [<- her] at HO H1 H1' H2 HIN
 clear hr hdb h1 h1' h2 her
 by_cases hk : 0 <= key /\ key <= 1000000
 ·have HBT := hide ((btw_iff key 0 1000000).2 hk)
  have HK := hide hk
  clear hk
  go_enter Tryz.func72, Tryz.ntmps72
  go_wp2_with fail
  with_reducible refine HO.out.mono ?_
  rintro e w1 (⟨hne, rfl, kk1⟩ | ⟨he0, s, ts, rfl, hsk, hpl, kk1⟩)
  ·have d1 : (er != 0) = true := by simpa using hne
   have HN := hide hne
   clear hne
   go_wp2
   go_ret2
   exact ⟨_, by rw [H2.out HN.out]; rfl, by rw [H2.out HN.out]; exact RD.nil, kk1.bel⟩
  ·have HN := hide he0
   have HSK := hide hsk
   have HPL := hide hpl
   clear he0 hsk hpl
   go_wp2_with (go_at_call 115; ((with_reducible refine (sk_within_to _ _ _ true _ HBT.out).mono ?_); rintro e w' ⟨rfl, rfl⟩))
   obtain ⟨W, hW⟩ : ∃ W, W = w1.alloc (.cells #[.slice none 0 0] 93) := ⟨_, rfl⟩
   have hob : OB W w1.heap.size w1.heap.size 93 96 ePair ([] : List IP) := by rw [hW]; exact OB.new w1 (Nat.le_refl _)
   have kW : Kp w1 W := by rw [hW]; exact (Kp.refl _).alloc
   have HF := hide (find_pathK w1.heap.size s ts key W _ w1.heap.size (HSK.out.kp kW) kW.size (Nat.le_refl _) hob)
   have HKW := hide kW
   rw [<- hW]
   clear hW hob kW
   with_reducible refine HF.out.mono ?_
   rintro e w3 ⟨rfl, ho3, hk3⟩
   obtain ⟨u3, hb3, hu3, hn3⟩ := ho3
   have g0 := hb3.cell 0
   obtain ⟨A3, N3, c3, rfl⟩ := hu3.rd.slice
   have HU := hide hu3.rd
   have HK3 := hide (hk3 w1 (Nat.le_refl _) HKW.out)
   simp only [List.getElem?_cons_zero] at g0
   clear hb3 hu3 hn3 hk3
   go_wp2
   go_ret2
   have hst := stops_all HSK.out (fun i h1 h2 => (by
    have hm : (tw ts i).p.1 ∈ ks := by
     have h3 : i - 1 < (pL ts).length := by rw [pL_len]; omega
     have h4 := List.getElem_mem h3
     rw [pL_at, show i - 1 + 1 = i from by omega, HPL.out] at h4
     obtain ⟨x, hx, e⟩ := List.mem_map.1 h4
     rw [<- e]; exact hx
    exact (HIN.out HN.out _ hm).1)) key 12 (Nat.le_refl _)
   exact ⟨.slice A3 N3 c3, by rw [H1.out HN.out HK.out]; rfl, by rw [H1.out HN.out HK.out, <- keysT_of HPL.out, hst]; exact HU.out, (kk1.trans HK3.out).bel⟩
 ·have HBT := hide ((btw_f_iff key 0 1000000).2 hk)
  have HK := hide hk
  clear hk
  go_enter Tryz.func72, Tryz.ntmps72
  go_wp2_with fail
  with_reducible refine HO.out.mono ?_
  rintro e w1 (⟨hne, rfl, kk1⟩ | ⟨he0, s, ts, rfl, hsk, hpl, kk1⟩)
  ·have d1 : (er != 0) = true := by simpa using hne
   have HN := hide hne
   clear hne
   go_wp2
   go_ret2
   exact ⟨_, by rw [H2.out HN.out]; rfl, by rw [H2.out HN.out]; exact RD.nil, kk1.bel⟩
  ·have HN := hide he0
   clear he0 hsk hpl
   go_wp2_with (go_at_call 115; ((with_reducible refine (sk_within_to _ _ _ false _ HBT.out).mono ?_); rintro e w' ⟨rfl, rfl⟩))
   go_ret2
   exact ⟨_, by rw [H1'.out HN.out HK.out]; rfl, by rw [H1'.out HN.out HK.out]; exact RD.nil, kk1.bel⟩
def OrS (r : Except Int By) (w : World) (e : Ending) (w' : World) : Prop := (match r with | .ok l => e = .returned (.string (bs l)) | .error k => e = slipE k) /\ Kp w w'
def noneB : By := [110, 111, 110, 101]
def pathS (ks : List Int) (key : Int) : Except Int By := if (pathOf ks key).2 = 0 then .ok (wordsF ((pathOf ks key).1.map Prod.snd) noneB) else .error (pathOf ks key).2
def DpaRel (p : List IP) (w : World) (ov iv : Value) (wr : World) : Prop := ∃ k : Nat, k <= p.length /\ iv = .int .i64 k /\ OW wr w.heap.size 3 eInt ov ((p.take k).map Prod.snd) /\ Kp w wr
theorem deskPath_any (d : Nat) (l : List IP) (key : Int) (v : Value) (w : World) (hc0 : w.cell? ⟨d, 0, none⟩ = some v) (hr : RD w ePair v l) (hn : l.length <= 1000000) (hdb : DTb w) (ht : T10 w)
  (hpl : (pathOf (l.map Prod.fst) key).1.length <= 1000000) (h64 : In64 ((pathOf (l.map Prod.fst) key).1.map Prod.snd)) :
  Calls Tryz.prog 40 #[.pointer (some ⟨d, 0, none⟩), .int .i64 key] w (OrS (pathS (l.map Prod.fst) key) w) := by
 have HK := hide (deskKeys_any d l v w hc0 hr hn)
 have HDB := hide hdb
 have HT := hide ht
 obtain ⟨ks, hks⟩ : ∃ ks, l.map Prod.fst = ks := ⟨_, rfl⟩
 rw [hks] at HK hpl h64 ⊢
 clear hks
 obtain ⟨p, hp⟩ : ∃ p, pathOf ks key = p := ⟨_, rfl⟩
 rw [hp] at hpl h64
 have HP := hide hp
 clear hp hr hdb ht hc0
 obtain ⟨p, er⟩ := p
 have H64 := hide h64
 clear h64
 by_cases he : er = 0
 ·subst he
  have H1 : Hid (pathS ks key = .ok (wordsF (p.map Prod.snd) noneB)) := hide (by rw [pathS, HP.out, if_pos rfl])
  go_enter Tryz.func40, Tryz.ntmps40
  go_wp2_with fail
  with_reducible refine HK.out.mono ?_
  rintro e w1 ⟨v1, rfl, ho1, hk1⟩
  have hr1 := hide ho1.rd
  have hk1 := Kp.of hk1
  obtain ⟨A1, c1, rfl, hc1, _⟩ := ho1.rd.shape
  clear ho1
  go_wp2_with fail
  with_reducible refine (skPath_any ks key _ w1 hr1.out (HDB.out.kp hk1)).mono ?_
  rw [HP.out]
  rintro e w2 ⟨v2, rfl, hr2, hk2⟩
  have hk2 := hk1.trans (Kp.of hk2)
  obtain ⟨A, c, rfl, hc, hm⟩ := hr2.shape
  have HR := hide hr2
  clear hr2
  go_wp2_with fail
  with_reducible refine (must_any 0 _).mono ?_
  rintro e w3 ⟨he, rfl⟩
  rw [if_pos rfl] at he
  subst he
  go_wp2
  go_loopw [7, 21] (DpaRel p w2) (fun _ i _ => p.length - (intOf i).toNat)
  case atStart => exact ⟨0, by omega, rfl, OW.nil, Kp.refl _⟩
  case round =>
   obtain ⟨k, hk, rfl, ho, hkp⟩ := hrel
   have hi := ho.hi
   have HO := hide ho
   obtain ⟨u, hu⟩ : ∃ u, u = u7 := ⟨_, rfl⟩
   by_cases hlt : k < p.length
   ·obtain ⟨b, o, rfl, _, x0, x1⟩ := (HR.out.kp hkp).pair hlt
    obtain ⟨y, hy⟩ : ∃ y, y = p[k].2 := ⟨_, rfl⟩
    rw [<- hy] at x1
    have HN : Hid ((p.take k).map Prod.snd ++ [y] = (p.take (k + 1)).map Prod.snd) := hide (by rw [List.take_succ_eq_append_getElem hlt, List.map_append, hy]; rfl)
    have HM1 : Hid ((((p.take k).map Prod.snd).length + [y].length) * 8 <= 140737488355328) := hide (by simp at hpl ⊢; omega)
    have HM2 : Hid (((p.take k).map Prod.snd).length + [y].length <= maxLen) := hide (by simp [maxLen] at hpl ⊢; omega)
    clear hy ho hu
    go_wp2_with (at_builtin; (with_reducible refine list_app (B := w2.heap.size) (l := (p.take k).map Prod.snd) (m := [y]) row_int u7 ?_ (.tmp 25) (.tmp 28) ?_ ?_ ?_ ?_ HM1.out HM2.out ?_ ?_); (with_reducible rfl); (with_reducible rfl); rfl; ((with_reducible apply OW.alloc); (with_reducible apply OW.alloc); exact HO.out); (show RD _ _ (.slice (some ⟨_, 0, none⟩) 1 1) _; (exact RD.auto)); (have := hkp.size; simp; omega); intro v3 w3 ho3 hg3 hat3)
    go_roundw
    case rel => exact ⟨k + 1, by omega, by go_num, by rw [<- HN.out]; exact ho3, Kp.app hg3 hkp.alloc.alloc hi⟩
    case measure => simp [intOf]; omega
   ·have hkl : Hid ((p.take k).map Prod.snd = p.map Prod.snd) := hide (by rw [List.take_of_length_le (by omega)])
    have hrd := HO.out.rd
    rw [hkl.out] at hrd
    have HW := hide (words_any (p.map Prod.snd) u7 noneB wr hrd (by rw [List.length_map]; exact hpl) H64.out (HT.out.kp (hk2.trans hkp)))
    clear ho hu hrd hi
    go_wp2_with fail
    refine HW.out.mono ?_
    rintro e w4 ⟨rfl, hk4⟩
    have hkp4 := (hk2.trans hkp).trans hk4
    go_wp2
    go_ret
    exact ⟨by rw [H1.out]; rfl, hkp4⟩
 ·have H1 : Hid (pathS ks key = .error er) := hide (by rw [pathS, HP.out, if_neg he])
  go_enter Tryz.func40, Tryz.ntmps40
  go_wp2_with fail
  with_reducible refine HK.out.mono ?_
  rintro e w1 ⟨v1, rfl, ho1, hk1⟩
  have hr1 := hide ho1.rd
  have hk1 := Kp.of hk1
  obtain ⟨A1, c1, rfl, hc1, _⟩ := ho1.rd.shape
  clear ho1
  go_wp2_with fail
  with_reducible refine (skPath_any ks key _ w1 hr1.out (HDB.out.kp hk1)).mono ?_
  rw [HP.out]
  rintro e w2 ⟨v2, rfl, hr2, hk2⟩
  have hk2 := hk1.trans (Kp.of hk2)
  clear hr2
  go_wp2_with fail
  with_reducible refine (must_any er _).mono ?_
  rintro e w3 ⟨hm, rfl⟩
  rw [if_neg he, slipE] at hm
  subst hm
  go_wp2
  exact ⟨rfl, by unfold OrS; rw [H1.out]; exact ⟨rfl, hk2⟩⟩
theorem join_any (xs : List By) (sep : By) (v : Value) (w : World) (hr : RD w eStr v (xs.map bs)) (hn : xs.length <= 140737488355328) (hl : (Lib.join xs sep).length <= 140737488355328) :
  Calls Tryz.prog 54 #[v, .string (bs sep)] w (RetS (Lib.join xs sep) w) := by
 obtain ⟨A, c, rfl, hc, _⟩ := hr.shape
 have hlm : (xs.map bs).length = xs.length := List.length_map _
 have hj : (xs.map bs).map (·.data.toList) = xs := by rw [List.map_map]; exact (List.map_congr_left (fun n _ => rfl)).trans (List.map_id xs)
 by_cases h0 : xs = []
 ·subst h0
  refine (Any.strings_Join_none lJoin lJoin_x A c (bs sep) w).mono ?_
  rintro e w' ⟨rfl, rfl⟩
  exact ⟨rfl, Kp.refl _⟩
 ·obtain ⟨b, o, rfl, hb, hx⟩ := hr.str (k := 0) (by rw [hlm]; exact List.length_pos_iff.2 h0)
  have h := Any.strings_Join lJoin lJoin_x b o c (xs.map bs) (bs sep) w (fun j x hx => by
   have hj := (List.getElem?_eq_some_iff.1 hx).1
   rw [hr.strs j hj, List.getD_eq_getElem?_getD, hx]; rfl) hb (by rw [hlm]; exact hn) hc (by show (Lib.join ((xs.map bs).map (·.data.toList)) sep).length <= _; rw [hj]; exact hl)
  refine Calls.mono h ?_
  rintro e w' ⟨rfl, hk⟩
  have e2 : (Lib.join ((xs.map bs).map (·.data.toList)) (bs sep).data.toList) = Lib.join xs sep := by rw [hj]; rfl
  rw [e2]
  exact ⟨rfl, hk⟩
theorem joinTail_lenN (N : Nat) (sep : By) : ∀ r : List By, (∀ x ∈ r, x.length <= N) -> (Lib.joinTail sep r).length <= r.length * (sep.length + N)
 | [], _ => by simp [Lib.joinTail]
 | x :: r, h => by
  have h1 := joinTail_lenN N sep r (fun y hy => h y (List.mem_cons_of_mem _ hy))
  have h2 := h x List.mem_cons_self
  have h3 : Lib.joinTail sep (x :: r) = (sep ++ x) ++ Lib.joinTail sep r := by simp [Lib.joinTail]
  rw [h3, List.length_append, List.length_append, List.length_cons, Nat.add_mul]
  omega
theorem join_lenN (N : Nat) (sep : By) (l : List By) (h : ∀ x ∈ l, x.length <= N) : (Lib.join l sep).length <= l.length * (sep.length + N) := by
 cases l with
 | nil => simp [Lib.join_nil]
 | cons x r =>
  rw [Lib.join_cons, List.length_append]
  have h1 := joinTail_lenN N sep r (fun y hy => h y (List.mem_cons_of_mem _ hy))
  have h2 := h x List.mem_cons_self
  rw [List.length_cons, Nat.add_mul]
  omega
theorem wordsF_len (l : List Int) (h : In64 l) (hn : l.length <= 1000000) (no : By) (hno : no.length <= 22000021) : (wordsF l no).length <= 22000021 := by
 unfold wordsF
 split
 ·exact hno
 ·have := words_len l h; omega
def rowsS (ks : List Int) : Except Int By := if (rowsOf ks).2 = 0 then .ok (if (rowsOf ks).1 = [] then noneB else Lib.join ((rowsOf ks).1.map (fun r => wordsF r [])) [124]) else .error (rowsOf ks).2
def DroRel (p : List (List Int)) (w : World) (ov iv : Value) (wr : World) : Prop := ∃ k : Nat, k <= p.length /\ iv = .int .i64 k /\ OW wr w.heap.size 9 eStr ov ((p.take k).map (fun r => bs (wordsF r []))) /\ Kp w wr
theorem deskRows_any (d : Nat) (l : List IP) (v : Value) (w : World) (hc0 : w.cell? ⟨d, 0, none⟩ = some v) (hr : RD w ePair v l) (hn : l.length <= 1000000) (hdb : DTb w) (ht : T10 w)
  (hpl : (rowsOf (l.map Prod.fst)).1.length <= 1000) (h64 : ∀ r ∈ (rowsOf (l.map Prod.fst)).1, r.length <= 1000000 /\ In64 r) :
  Calls Tryz.prog 38 #[.pointer (some ⟨d, 0, none⟩)] w (OrS (rowsS (l.map Prod.fst)) w) := by
 have HK := hide (deskKeys_any d l v w hc0 hr hn)
 have HDB := hide hdb
 have HT := hide ht
 obtain ⟨ks, hks⟩ : ∃ ks, l.map Prod.fst = ks := ⟨_, rfl⟩
 rw [hks] at HK hpl h64 ⊢
 clear hks
 obtain ⟨p, hp⟩ : ∃ p, rowsOf ks = p := ⟨_, rfl⟩
 rw [hp] at hpl h64
 have HP := hide hp
 clear hp hr hdb ht hc0
 obtain ⟨p, er⟩ := p
 have H64 := hide h64
 clear h64
 by_cases he : er = 0
 ·subst he
  have H1 : Hid (rowsS ks = .ok (if p = [] then noneB else Lib.join (p.map (fun r => wordsF r [])) [124])) := hide (by rw [rowsS, HP.out, if_pos rfl])
  go_enter Tryz.func38, Tryz.ntmps38
  go_wp2_with fail
  with_reducible refine HK.out.mono ?_
  rintro e w1 ⟨v1, rfl, ho1, hk1⟩
  have hr1 := hide ho1.rd
  have hk1 := Kp.of hk1
  obtain ⟨A1, c1, rfl, hc1, _⟩ := ho1.rd.shape
  clear ho1
  go_wp2_with fail
  with_reducible refine (skRows_any ks _ w1 hr1.out (HDB.out.kp hk1)).mono ?_
  rw [HP.out]
  rintro e w2 ⟨v2, rfl, hr2, hk2⟩
  have hk2 := hk1.trans hk2
  obtain ⟨A, c, rfl, hc, hm⟩ := hr2.shape
  have HR := hide hr2
  clear hr2
  go_wp2_with fail
  refine (must_any 0 _).mono ?_
  rintro e w3 ⟨he, rfl⟩
  rw [if_pos rfl] at he
  subst he
  go_wp2
  go_loopw [5, 18] (DroRel p w2) (fun _ i _ => p.length - (intOf i).toNat)
  case atStart => exact ⟨0, by omega, rfl, OW.nil, Kp.refl _⟩
  case round =>
   obtain ⟨k, hk, rfl, ho, hkp⟩ := hrel
   have hi := ho.hi
   have HO := hide ho
   obtain ⟨u, hu⟩ : ∃ u, u = u5 := ⟨_, rfl⟩
   by_cases hlt : k < p.length
   ·obtain ⟨b, o, u1, rfl, _, x0, hru⟩ := (HR.out.kp hkp).at_ hlt
    obtain ⟨y, hy⟩ : ∃ y, y = p[k] := ⟨_, rfl⟩
    rw [<- hy] at hru
    have hy64 := H64.out y (by rw [hy]; exact List.getElem_mem hlt)
    have HN : Hid ((p.take k).map (fun r => bs (wordsF r [])) ++ [bs (wordsF y [])] = (p.take (k + 1)).map (fun r => bs (wordsF r []))) := hide (by rw [List.take_succ_eq_append_getElem hlt, List.map_append, hy]; rfl)
    have HM1 : Hid ((((p.take k).map (fun r => bs (wordsF r []))).length + [bs (wordsF y [])].length) * 16 <= 140737488355328) := hide (by simp at hpl ⊢; omega)
    have HM2 : Hid (((p.take k).map (fun r => bs (wordsF r []))).length + [bs (wordsF y [])].length <= maxLen) := hide (by simp [maxLen] at hpl ⊢; omega)
    have HW := hide (words_any y u1 [] wr hru hy64.1 hy64.2 (HT.out.kp (hk2.trans hkp)))
    clear hy ho hu hy64 hru
    go_wp2_with fail
    refine HW.out.mono ?_
    rintro e w5 ⟨rfl, hk5⟩
    have hkp5 := hkp.trans hk5
    have ho5 := hide (HO.out.below hk5)
    go_wp2_with (at_builtin; (with_reducible refine list_app (B := w2.heap.size) (l := (p.take k).map (fun r => bs (wordsF r []))) (m := [bs (wordsF y [])]) row_str u5 ?_ (.tmp 22) (.tmp 25) ?_ ?_ ?_ ?_ HM1.out HM2.out ?_ ?_); (with_reducible rfl); (with_reducible rfl); rfl; ((with_reducible apply OW.alloc); exact ho5.out); (show RD _ _ (.slice (some ⟨_, 0, none⟩) 1 1) _; (exact RD.auto)); (have := hkp5.size; simp; omega); intro v3 w3 ho3 hg3 hat3)
    go_roundw
    case rel => exact ⟨k + 1, by omega, by go_num, by rw [<- HN.out]; exact ho3, Kp.app hg3 hkp5.alloc hi⟩
    case measure => simp [intOf]; omega
   ·have hkl : Hid ((p.take k).map (fun r => bs (wordsF r [])) = (p.map (fun r => wordsF r [])).map bs) := hide (by rw [List.take_of_length_le (by omega), List.map_map]; rfl)
    have hrd := HO.out.rd
    rw [hkl.out] at hrd
    have hjn := join_lenN 22000021 [124] (p.map (fun r => wordsF r [])) (fun x hx => by
     obtain ⟨r, hr, rfl⟩ := List.mem_map.1 hx
     exact wordsF_len r (H64.out r hr).2 (H64.out r hr).1 [] (by simp))
    have hlp : (p.map (fun r => wordsF r [])).length = p.length := List.length_map _
    have hlp2 : ((p.map (fun r => wordsF r [])).map bs).length = p.length := by rw [List.length_map, List.length_map]
    have HJ := hide (join_any (p.map (fun r => wordsF r [])) [124] u5 wr hrd (by rw [hlp]; omega) (by rw [hlp] at hjn; simp only [List.length_singleton] at hjn; omega))
    obtain ⟨A5, c5, rfl, hc5, _⟩ := hrd.shape
    rw [hlp2] at HJ HO hi hrd
    have HRD := hide hrd
    clear ho hu hrd hjn hlp hlp2 hc5 hkl HO hi
    by_cases hp0 : p = []
    ·subst hp0
     go_wp2
     go_ret
     exact ⟨by rw [H1.out]; rfl, hk2.trans hkp⟩
    ·have hl0 : 0 < p.length := List.length_pos_iff.2 hp0
     have b0 : ((p.length : Int) == 0) = false := beq_eq_false_iff_ne.2 (by omega)
     have H2 : Hid (rowsS ks = .ok (Lib.join (p.map (fun r => wordsF r [])) [124])) := hide (by rw [H1.out, if_neg hp0])
     clear hp0
     go_wp2_with fail
     refine HJ.out.mono ?_
     rintro e w4 ⟨rfl, hk4⟩
     have hkp4 := (hk2.trans hkp).trans hk4
     go_wp2
     go_ret
     exact ⟨by rw [H2.out]; rfl, hkp4⟩
 ·have H1 : Hid (rowsS ks = .error er) := hide (by rw [rowsS, HP.out, if_neg he])
  go_enter Tryz.func38, Tryz.ntmps38
  go_wp2_with fail
  with_reducible refine HK.out.mono ?_
  rintro e w1 ⟨v1, rfl, ho1, hk1⟩
  have hr1 := hide ho1.rd
  have hk1 := Kp.of hk1
  obtain ⟨A1, c1, rfl, hc1, _⟩ := ho1.rd.shape
  clear ho1
  go_wp2_with fail
  with_reducible refine (skRows_any ks _ w1 hr1.out (HDB.out.kp hk1)).mono ?_
  rw [HP.out]
  rintro e w2 ⟨v2, rfl, hr2, hk2⟩
  have hk2 := hk1.trans hk2
  clear hr2
  go_wp2_with fail
  with_reducible refine (must_any er _).mono ?_
  rintro e w3 ⟨hm, rfl⟩
  rw [if_neg he, slipE] at hm
  subst hm
  go_wp2
  exact ⟨rfl, by unfold OrS; rw [H1.out]; exact ⟨rfl, hk2⟩⟩
end Go.Proofs.YtcljlnagpjilaaaGreatDoor
