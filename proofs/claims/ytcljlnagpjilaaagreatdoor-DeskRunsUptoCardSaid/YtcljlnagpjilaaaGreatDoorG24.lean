/-
  hedgref.Done: what it answers
-/
import Derived.Test.YtcljlnagpjilaaaGreatDoorG23
import Derived.Test.YtcljlnagpjilaaaGreatDoorG9

set_option linter.unusedVariables false
set_option linter.unusedSimpArgs false
set_option maxRecDepth 100000
set_option maxHeartbeats 8000000
namespace Go.Proofs.YtcljlnagpjilaaaGreatDoor
open Go.ChangeShapes Go.WideShapes Go.ChangeAt Go.RowKit
def doneL (l : List IP) (kind key val : Int) : List IP × An :=
 if ¬ (1 <= kind /\ kind <= 7) ∨ (kind < 6 /\ ¬ (0 <= key /\ key <= 1000000)) then (l, ⟨1, 0, 0, false⟩)
 else if kind = 1 then (if (hasR l key).2 = false /\ l.length = 200 then (l, ⟨2, 0, 0, false⟩) else (withL l (key, val), ⟨0, 0, 0, (hasR l key).2⟩))
 else if kind = 2 then (l, ⟨0, 0, (hasR l key).1, (hasR l key).2⟩)
 else if kind = 3 then (without l key, ⟨0, 0, (hasR l key).1, (hasR l key).2⟩)
 else if kind = 4 then (l, toldL l (below l (key + 1)))
 else if kind = 5 then (l, toldL l ((below l key : Int) - 1))
 else if kind = 6 then (l, ⟨0, 0, below l key, true⟩)
 else (l, toldL l key)
def DonePost (r : List IP × An) (v : Value) (w : World) (e : Ending) (w' : World) : Prop :=
 ∃ v', e = .returned (.tuple #[v', r.2.v]) /\ RD w' ePair v' r.1 /\ (v' = v ∨ Hi w.heap.size v') /\ Below w.heap.size w w'
theorem RD.box {w : World} {v : Value} {l : List IP} (h : RD w ePair v l) {a : Nat} (hv : v.ownBlock ≠ some a) (e k n : Int) (i : Bool) : RD ((((w.setCell ⟨a, 0, none⟩ (.int .i64 e)).setCell ⟨a, 1, none⟩ (.int .i64 k)).setCell ⟨a, 2, none⟩ (.int .i64 n)).setCell ⟨a, 3, none⟩ (.bool i)) ePair v l :=
 h.kg (fun _ => hv) ((((Kg.refl a w).set).set).set).set
theorem RD.own {α : Type} {E : Enc α} {w : World} {v : Value} {l : List α} (h : RD w E v l) {a : Nat} (ha : w.heap.size <= a) (h0 : 0 < l.length) : v.ownBlock ≠ some a := by
 obtain ⟨A, c, rfl, h1, h2, hn, h3⟩ := h
 obtain ⟨b, o, rfl, hb, _⟩ := h3 h0
 intro e
 injection e with e
 simp at e
 omega
theorem RD.box' {w w0 : World} {v : Value} {l : List IP} (h : RD w ePair v l) (h0 : RD w0 ePair v l) {a : Nat} (ha : w0.heap.size <= a) (e k n : Int) (i : Bool) : RD ((((w.setCell ⟨a, 0, none⟩ (.int .i64 e)).setCell ⟨a, 1, none⟩ (.int .i64 k)).setCell ⟨a, 2, none⟩ (.int .i64 n)).setCell ⟨a, 3, none⟩ (.bool i)) ePair v l :=
 h.kg (fun hl => h0.own ha hl) ((((Kg.refl a w).set).set).set).set
theorem done_any (l : List IP) (kind key val : Int) (v : Value) (w : World) (hr : RD w ePair v l) (hn : l.length <= 200) :
  Calls Tryz.prog 48 #[v, .agg #[.int .i64 kind, .int .i64 key, .int .i64 val]] w (DonePost (doneL l kind key val) v w) := by
 obtain ⟨Al, cl, rfl, hcl, hml⟩ := hr.shape
 have HR := hide hr
 obtain ⟨W1, hW1⟩ : ∃ W1, W1 = (w.alloc (.cells #[.int .i64 kind, .int .i64 key, .int .i64 val] 82)).alloc (.cells #[.int .i64 0, .int .i64 0, .int .i64 0, .bool false] 84) := ⟨_, rfl⟩
 have HK1 : Hid (Kp w W1) := hide (by rw [hW1]; exact (Kp.refl w).alloc.alloc)
 have HZ1 : Hid (W1.heap.size = w.heap.size + 2) := hide (by rw [hW1]; simp)
 have HDB : Hid (DB w.heap.size kind key val W1) := hide (by rw [hW1]; simp [DB, go_sem])
 have HW1 := hide hW1
 clear hr hW1
 by_cases hkd : 1 <= kind /\ kind <= 7
 ·have HBK : Hid (btw kind 1 7 = true) := hide ((btw_iff _ _ _).2 hkd)
  by_cases hky : kind < 6 /\ ¬ (0 <= key /\ key <= 1000000)
  ·have HBY : Hid (btw key 0 1000000 = false) := hide ((btw_f_iff _ _ _).2 hky.2)
   have hp : doneL l kind key val = (l, ⟨1, 0, 0, false⟩) := by rw [doneL, if_pos (.inr hky)]
   have t5 : decide (kind < 6) = true := by simp [hky.1]
   rw [hp]
   clear hky hkd hp
   go_enter Tryz.func48, Tryz.ntmps48
   go_wp2_with (first
    | (go_at_call 85; ((with_reducible refine (between_to _ _ _ true _ HBK.out).mono ?_); rintro e w' ⟨rfl, rfl⟩))
    | (go_at_call 85; ((with_reducible refine (between_to _ _ _ false _ HBY.out).mono ?_); rintro e w' ⟨rfl, rfl⟩)))
   refine bodyPost_ret (v := .tuple #[.slice Al l.length cl, (⟨1, 0, 0, false⟩ : An).v]) (by simp [results, Tryz.results48, go_sem, An.v]) rfl ⟨_, rfl, (HR.out.alloc _).alloc _, .inl rfl, (Kp.refl w).alloc.alloc.bel⟩
  ·obtain ⟨P, hP⟩ : ∃ P, P = hasR l key := ⟨_, rfl⟩
   have HH := hide (fun W v h => hasR_any l v key W h)
   have hdl : doneL l kind key val = if kind = 1 then (if (hasR l key).2 = false /\ l.length = 200 then (l, ⟨2, 0, 0, false⟩) else (withL l (key, val), ⟨0, 0, 0, (hasR l key).2⟩))
     else if kind = 2 then (l, ⟨0, 0, (hasR l key).1, (hasR l key).2⟩)
     else if kind = 3 then (without l key, ⟨0, 0, (hasR l key).1, (hasR l key).2⟩)
     else if kind = 4 then (l, toldL l (below l (key + 1)))
     else if kind = 5 then (l, toldL l ((below l key : Int) - 1))
     else if kind = 6 then (l, ⟨0, 0, below l key, true⟩)
     else (l, toldL l key) := by rw [doneL, if_neg (by omega)]
   rw [<- hP] at HH hdl
   obtain ⟨hv, hs⟩ := P
   simp only at HH hdl
   have hkd' : kind = 1 ∨ kind = 2 ∨ kind = 3 ∨ kind = 4 ∨ kind = 5 ∨ kind = 6 ∨ kind = 7 := by omega
   have hza : w.heap.size <= w.heap.size + 1 := by omega
   clear hP
   by_cases hky5 : kind < 6
   ·have hkin : 0 <= key /\ key <= 1000000 := by omega
    have HBY : Hid (btw key 0 1000000 = true) := hide ((btw_iff _ _ _).2 hkin)
    rcases hkd' with rfl | rfl | rfl | rfl | rfl | h6 | h7
    ·by_cases hf : hs = false /\ l.length = 200
     ·have hp : doneL l 1 key val = (l, ⟨2, 0, 0, false⟩) := by rw [hdl, if_pos rfl, if_pos hf]
      rw [hp]
      obtain ⟨rfl, h200⟩ := hf
      have t200 : ((l.length : Int) == 200) = true := by simp [h200]
      clear hp hdl hky hkd hky5 h200
      go_enter Tryz.func48, Tryz.ntmps48
      go_wp2_with (first
       | (go_at_call 85; ((with_reducible refine (between_to _ _ _ true _ HBK.out).mono ?_); rintro e w' ⟨rfl, rfl⟩))
       | (go_at_call 85; ((with_reducible refine (between_to _ _ _ true _ HBY.out).mono ?_); rintro e w' ⟨rfl, rfl⟩)))
      refine (HH.out _ _ ((HR.out.alloc _).alloc _)).mono ?_
      rintro e w1 ⟨rfl, hb1⟩
      have hk1 : Kp W1 w1 := by rw [HW1.out]; exact hb1
      obtain ⟨o0, o1, o2, r0, r1, r2, r3, f0, f1, f2, f3⟩ := HDB.out.kp hk1
      have HR1 := hide (HR.out.kp (HK1.out.trans hk1))
      have HK11 := hide (HK1.out.trans hk1)
      have HKK := hide hk1
      clear hb1 hk1
      go_wp2
      refine bodyPost_ret (v := .tuple #[.slice Al l.length cl, ((⟨2, 0, 0, false⟩ : An)).v]) (by simp [results, Tryz.results48, go_sem, An.v, r0, r1, r2, r3]) rfl ⟨_, rfl, ?_, ?_, ?_⟩
      ·exact HR1.out.box' HR.out hza _ _ _ _
      ·exact .inl rfl
      ·exact Kp.bel (Kp.setR (by simp) (Kp.setR (by simp) (Kp.setR (by simp) (Kp.setR (by simp) HK11.out))))
     ·have hp : doneL l 1 key val = (withL l (key, val), ⟨0, 0, 0, hs⟩) := by rw [hdl, if_pos rfl, if_neg hf]
      rw [hp]
      have HWI := hide (fun W v h => with_any l v key val W h (by omega))
      clear hp hdl hky hkd hky5
      cases hs with
      | true =>
       clear hf
       go_enter Tryz.func48, Tryz.ntmps48
       go_wp2_with (first
        | (go_at_call 85; ((with_reducible refine (between_to _ _ _ true _ HBK.out).mono ?_); rintro e w' ⟨rfl, rfl⟩))
        | (go_at_call 85; ((with_reducible refine (between_to _ _ _ true _ HBY.out).mono ?_); rintro e w' ⟨rfl, rfl⟩)))
       refine (HH.out _ _ ((HR.out.alloc _).alloc _)).mono ?_
       rintro e w1 ⟨rfl, hb1⟩
       have hk1 : Kp W1 w1 := by rw [HW1.out]; exact hb1
       obtain ⟨o0, o1, o2, r0, r1, r2, r3, f0, f1, f2, f3⟩ := HDB.out.kp hk1
       have HR1 := hide (HR.out.kp (HK1.out.trans hk1))
       have HK11 := hide (HK1.out.trans hk1)
       have HKK := hide hk1
       clear hb1 hk1
       go_wp2_with fail
       refine (HWI.out _ _ HR1.out).mono ?_
       rintro e w2 ⟨v2, rfl, ho2, hb2⟩
       have kk2 := Kp.of hb2
       obtain ⟨o0, o1, o2, r0, r1, r2, r3, f0, f1, f2, f3⟩ := HDB.out.kp (HKK.out.trans kk2)
       have HO2 := hide ho2
       have HK2 := hide kk2
       have hz1 := HKK.out.size
       have hz2 := HK11.out.size
       have HLO : Hid (v2.ownBlock ≠ some (w.heap.size + 1)) := hide (fun h => by have := ho2.lt _ h; have := HZ1.out; omega)
       have HHI : Hid (Hi w.heap.size v2) := hide (ho2.hi.mono hz2)
       clear ho2 hb2 kk2 hz1 hz2
       go_wp2
       refine bodyPost_ret (v := .tuple #[v2, ((⟨0, 0, 0, true⟩ : An)).v]) (by simp [results, Tryz.results48, go_sem, An.v, r0, r1, r2, r3]) rfl ⟨_, rfl, ?_, ?_, ?_⟩
       ·exact RD.box HO2.out.rd HLO.out _ _ _ _
       ·exact .inr HHI.out
       ·exact Kp.bel (Kp.setR (by simp) (Kp.setR (by simp) (Kp.setR (by simp) (Kp.setR (by simp) (HK11.out.trans HK2.out)))))
      | false =>
       have t200 : ((l.length : Int) == 200) = false := by simp at hf ⊢; omega
       clear hf
       go_enter Tryz.func48, Tryz.ntmps48
       go_wp2_with (first
        | (go_at_call 85; ((with_reducible refine (between_to _ _ _ true _ HBK.out).mono ?_); rintro e w' ⟨rfl, rfl⟩))
        | (go_at_call 85; ((with_reducible refine (between_to _ _ _ true _ HBY.out).mono ?_); rintro e w' ⟨rfl, rfl⟩)))
       refine (HH.out _ _ ((HR.out.alloc _).alloc _)).mono ?_
       rintro e w1 ⟨rfl, hb1⟩
       have hk1 : Kp W1 w1 := by rw [HW1.out]; exact hb1
       obtain ⟨o0, o1, o2, r0, r1, r2, r3, f0, f1, f2, f3⟩ := HDB.out.kp hk1
       have HR1 := hide (HR.out.kp (HK1.out.trans hk1))
       have HK11 := hide (HK1.out.trans hk1)
       have HKK := hide hk1
       clear hb1 hk1
       go_wp2_with fail
       refine (HWI.out _ _ HR1.out).mono ?_
       rintro e w2 ⟨v2, rfl, ho2, hb2⟩
       have kk2 := Kp.of hb2
       obtain ⟨o0, o1, o2, r0, r1, r2, r3, f0, f1, f2, f3⟩ := HDB.out.kp (HKK.out.trans kk2)
       have HO2 := hide ho2
       have HK2 := hide kk2
       have hz1 := HKK.out.size
       have hz2 := HK11.out.size
       have HLO : Hid (v2.ownBlock ≠ some (w.heap.size + 1)) := hide (fun h => by have := ho2.lt _ h; have := HZ1.out; omega)
       have HHI : Hid (Hi w.heap.size v2) := hide (ho2.hi.mono hz2)
       clear ho2 hb2 kk2 hz1 hz2
       go_wp2
       refine bodyPost_ret (v := .tuple #[v2, ((⟨0, 0, 0, false⟩ : An)).v]) (by simp [results, Tryz.results48, go_sem, An.v, r0, r1, r2, r3]) rfl ⟨_, rfl, ?_, ?_, ?_⟩
       ·exact RD.box HO2.out.rd HLO.out _ _ _ _
       ·exact .inr HHI.out
       ·exact Kp.bel (Kp.setR (by simp) (Kp.setR (by simp) (Kp.setR (by simp) (Kp.setR (by simp) (HK11.out.trans HK2.out)))))
    ·have hp : doneL l 2 key val = (l, ⟨0, 0, hv, hs⟩) := by rw [hdl]; rfl
     rw [hp]
     clear hp hdl hky hkd hky5
     go_enter Tryz.func48, Tryz.ntmps48
     go_wp2_with (first
      | (go_at_call 85; ((with_reducible refine (between_to _ _ _ true _ HBK.out).mono ?_); rintro e w' ⟨rfl, rfl⟩))
      | (go_at_call 85; ((with_reducible refine (between_to _ _ _ true _ HBY.out).mono ?_); rintro e w' ⟨rfl, rfl⟩)))
     refine (HH.out _ _ ((HR.out.alloc _).alloc _)).mono ?_
     rintro e w1 ⟨rfl, hb1⟩
     have hk1 : Kp W1 w1 := by rw [HW1.out]; exact hb1
     obtain ⟨o0, o1, o2, r0, r1, r2, r3, f0, f1, f2, f3⟩ := HDB.out.kp hk1
     have HR1 := hide (HR.out.kp (HK1.out.trans hk1))
     have HK11 := hide (HK1.out.trans hk1)
     have HKK := hide hk1
     clear hb1 hk1
     go_wp2
     refine bodyPost_ret (v := .tuple #[.slice Al l.length cl, ((⟨0, 0, hv, hs⟩ : An)).v]) (by simp [results, Tryz.results48, go_sem, An.v, r0, r1, r2, r3]) rfl ⟨_, rfl, ?_, ?_, ?_⟩
     ·exact HR1.out.box' HR.out hza _ _ _ _
     ·exact .inl rfl
     ·exact Kp.bel (Kp.setR (by simp) (Kp.setR (by simp) (Kp.setR (by simp) (Kp.setR (by simp) HK11.out))))
    ·have hp : doneL l 3 key val = (without l key, ⟨0, 0, hv, hs⟩) := by rw [hdl]; rfl
     rw [hp]
     have HWI := hide (fun W v h => without_any l v key W h (by omega))
     clear hp hdl hky hkd hky5
     go_enter Tryz.func48, Tryz.ntmps48
     go_wp2_with (first
      | (go_at_call 85; ((with_reducible refine (between_to _ _ _ true _ HBK.out).mono ?_); rintro e w' ⟨rfl, rfl⟩))
      | (go_at_call 85; ((with_reducible refine (between_to _ _ _ true _ HBY.out).mono ?_); rintro e w' ⟨rfl, rfl⟩)))
     refine (HH.out _ _ ((HR.out.alloc _).alloc _)).mono ?_
     rintro e w1 ⟨rfl, hb1⟩
     have hk1 : Kp W1 w1 := by rw [HW1.out]; exact hb1
     obtain ⟨o0, o1, o2, r0, r1, r2, r3, f0, f1, f2, f3⟩ := HDB.out.kp hk1
     have HR1 := hide (HR.out.kp (HK1.out.trans hk1))
     have HK11 := hide (HK1.out.trans hk1)
     have HKK := hide hk1
     clear hb1 hk1
     go_wp2_with fail
     refine (HWI.out _ _ HR1.out).mono ?_
     rintro e w2 ⟨v2, rfl, ho2, hb2⟩
     have kk2 := Kp.of hb2
     obtain ⟨o0, o1, o2, r0, r1, r2, r3, f0, f1, f2, f3⟩ := HDB.out.kp (HKK.out.trans kk2)
     have HO2 := hide ho2
     have HK2 := hide kk2
     have hz1 := HKK.out.size
     have hz2 := HK11.out.size
     have HLO : Hid (v2.ownBlock ≠ some (w.heap.size + 1)) := hide (fun h => by have := ho2.lt _ h; have := HZ1.out; omega)
     have HHI : Hid (Hi w.heap.size v2) := hide (ho2.hi.mono hz2)
     clear ho2 hb2 kk2 hz1 hz2
     go_wp2
     refine bodyPost_ret (v := .tuple #[v2, ((⟨0, 0, hv, hs⟩ : An)).v]) (by simp [results, Tryz.results48, go_sem, An.v, r0, r1, r2, r3]) rfl ⟨_, rfl, ?_, ?_, ?_⟩
     ·exact RD.box HO2.out.rd HLO.out _ _ _ _
     ·exact .inr HHI.out
     ·exact Kp.bel (Kp.setR (by simp) (Kp.setR (by simp) (Kp.setR (by simp) (Kp.setR (by simp) (HK11.out.trans HK2.out)))))
    ·have hp : doneL l 4 key val = (l, toldL l (below l (key + 1))) := by rw [hdl]; rfl
     rw [hp]
     have HB := hide (fun W v h => belowR_any l v (key + 1) W h (by omega))
     have HN := hide (fun W v h => nth_any l v (below l (key + 1) : Nat) W h)
     have hwk : IntKind.i64.wrap (key + 1) = key + 1 := IntWalk.i64_in _ (by omega)
     obtain ⟨bl, hbl⟩ : ∃ b, b = below l (key + 1) := ⟨_, rfl⟩
     rw [<- hbl] at HB HN ⊢
     obtain ⟨tl, htl⟩ : ∃ tl, tl = toldL l (bl : Int) := ⟨_, rfl⟩
     rw [<- htl] at HN ⊢
     obtain ⟨ta, tb, tc, td⟩ := tl
     clear hp hdl hky hkd hky5 hbl htl
     go_enter Tryz.func48, Tryz.ntmps48
     go_wp2_with (first
      | (go_at_call 85; ((with_reducible refine (between_to _ _ _ true _ HBK.out).mono ?_); rintro e w' ⟨rfl, rfl⟩))
      | (go_at_call 85; ((with_reducible refine (between_to _ _ _ true _ HBY.out).mono ?_); rintro e w' ⟨rfl, rfl⟩)))
     refine (HH.out _ _ ((HR.out.alloc _).alloc _)).mono ?_
     rintro e w1 ⟨rfl, hb1⟩
     have hk1 : Kp W1 w1 := by rw [HW1.out]; exact hb1
     obtain ⟨o0, o1, o2, r0, r1, r2, r3, f0, f1, f2, f3⟩ := HDB.out.kp hk1
     have HR1 := hide (HR.out.kp (HK1.out.trans hk1))
     have HK11 := hide (HK1.out.trans hk1)
     have HKK := hide hk1
     clear hb1 hk1
     go_wp2_with fail
     refine (HB.out _ _ HR1.out).mono ?_
     rintro e w2 ⟨rfl, hb2⟩
     have kk2 := Kp.of hb2
     clear hb2
     go_wp2_with fail
     refine (HN.out _ _ (HR1.out.kp kk2)).mono ?_
     rintro e w3 ⟨rfl, hb3⟩
     have kk3 := Kp.of hb3
     have hkk13 := Kp.trans kk2 kk3
     obtain ⟨o0, o1, o2, r0, r1, r2, r3, f0, f1, f2, f3⟩ := HDB.out.kp (HKK.out.trans hkk13)
     have HK3 := hide hkk13
     clear hb3 kk3 hkk13
     simp only [An.v]
     go_wp2
     refine bodyPost_ret (v := .tuple #[.slice Al l.length cl, ((⟨ta, tb, tc, td⟩ : An)).v]) (by simp [results, Tryz.results48, go_sem, An.v, r0, r1, r2, r3]) rfl ⟨_, rfl, ?_, ?_, ?_⟩
     ·exact (HR1.out.kp HK3.out).box' HR.out hza _ _ _ _
     ·exact .inl rfl
     ·exact Kp.bel (Kp.setR (by simp) (Kp.setR (by simp) (Kp.setR (by simp) (Kp.setR (by simp) (HK11.out.trans HK3.out)))))
    ·have hp : doneL l 5 key val = (l, toldL l ((below l key : Int) - 1)) := by rw [hdl]; rfl
     rw [hp]
     have HB := hide (fun W v h => belowR_any l v key W h (by omega))
     have HN := hide (fun W v h => nth_any l v ((below l key : Int) - 1) W h)
     have hble := below_le l key
     obtain ⟨bl, hbl⟩ : ∃ b, b = below l key := ⟨_, rfl⟩
     rw [<- hbl] at HB HN hble ⊢
     have hwk : IntKind.i64.wrap ((bl : Int) - 1) = (bl : Int) - 1 := IntWalk.i64_in _ (by omega)
     obtain ⟨tl, htl⟩ : ∃ tl, tl = toldL l ((bl : Int) - 1) := ⟨_, rfl⟩
     rw [<- htl] at HN ⊢
     obtain ⟨ta, tb, tc, td⟩ := tl
     clear hp hdl hky hkd hky5 hbl htl
     go_enter Tryz.func48, Tryz.ntmps48
     go_wp2_with (first
      | (go_at_call 85; ((with_reducible refine (between_to _ _ _ true _ HBK.out).mono ?_); rintro e w' ⟨rfl, rfl⟩))
      | (go_at_call 85; ((with_reducible refine (between_to _ _ _ true _ HBY.out).mono ?_); rintro e w' ⟨rfl, rfl⟩)))
     refine (HH.out _ _ ((HR.out.alloc _).alloc _)).mono ?_
     rintro e w1 ⟨rfl, hb1⟩
     have hk1 : Kp W1 w1 := by rw [HW1.out]; exact hb1
     obtain ⟨o0, o1, o2, r0, r1, r2, r3, f0, f1, f2, f3⟩ := HDB.out.kp hk1
     have HR1 := hide (HR.out.kp (HK1.out.trans hk1))
     have HK11 := hide (HK1.out.trans hk1)
     have HKK := hide hk1
     clear hb1 hk1
     go_wp2_with fail
     refine (HB.out _ _ HR1.out).mono ?_
     rintro e w2 ⟨rfl, hb2⟩
     have kk2 := Kp.of hb2
     clear hb2
     go_wp2_with fail
     refine (HN.out _ _ (HR1.out.kp kk2)).mono ?_
     rintro e w3 ⟨rfl, hb3⟩
     have kk3 := Kp.of hb3
     have hkk13 := Kp.trans kk2 kk3
     obtain ⟨o0, o1, o2, r0, r1, r2, r3, f0, f1, f2, f3⟩ := HDB.out.kp (HKK.out.trans hkk13)
     have HK3 := hide hkk13
     clear hb3 kk3 hkk13
     simp only [An.v]
     go_wp2
     refine bodyPost_ret (v := .tuple #[.slice Al l.length cl, ((⟨ta, tb, tc, td⟩ : An)).v]) (by simp [results, Tryz.results48, go_sem, An.v, r0, r1, r2, r3]) rfl ⟨_, rfl, ?_, ?_, ?_⟩
     ·exact (HR1.out.kp HK3.out).box' HR.out hza _ _ _ _
     ·exact .inl rfl
     ·exact Kp.bel (Kp.setR (by simp) (Kp.setR (by simp) (Kp.setR (by simp) (Kp.setR (by simp) (HK11.out.trans HK3.out)))))
    ·omega
    ·omega
   ·have hkd6 : kind = 6 ∨ kind = 7 := by omega
    rcases hkd6 with rfl | rfl
    ·have hp : doneL l 6 key val = (l, ⟨0, 0, below l key, true⟩) := by rw [hdl]; rfl
     rw [hp]
     have HB := hide (fun W v h => belowR_any l v key W h (by omega))
     obtain ⟨bl, hbl⟩ : ∃ b, b = below l key := ⟨_, rfl⟩
     rw [<- hbl] at HB ⊢
     clear hp hdl hky hkd hky5 hbl hkd'
     go_enter Tryz.func48, Tryz.ntmps48
     go_wp2_with (go_at_call 85; ((with_reducible refine (between_to _ _ _ true _ HBK.out).mono ?_); rintro e w' ⟨rfl, rfl⟩))
     refine (HH.out _ _ ((HR.out.alloc _).alloc _)).mono ?_
     rintro e w1 ⟨rfl, hb1⟩
     have hk1 : Kp W1 w1 := by rw [HW1.out]; exact hb1
     obtain ⟨o0, o1, o2, r0, r1, r2, r3, f0, f1, f2, f3⟩ := HDB.out.kp hk1
     have HR1 := hide (HR.out.kp (HK1.out.trans hk1))
     have HK11 := hide (HK1.out.trans hk1)
     have HKK := hide hk1
     clear hb1 hk1
     go_wp2_with fail
     refine (HB.out _ _ HR1.out).mono ?_
     rintro e w2 ⟨rfl, hb2⟩
     have kk2 := Kp.of hb2
     obtain ⟨o0, o1, o2, r0, r1, r2, r3, f0, f1, f2, f3⟩ := HDB.out.kp (HKK.out.trans kk2)
     clear hb2
     go_wp2
     refine bodyPost_ret (v := .tuple #[.slice Al l.length cl, ((⟨0, 0, (bl : Int), true⟩ : An)).v]) (by simp [results, Tryz.results48, go_sem, An.v, r0, r1, r2, r3]) rfl ⟨_, rfl, ?_, ?_, ?_⟩
     ·exact (HR1.out.kp kk2).box' HR.out hza _ _ _ _
     ·exact .inl rfl
     ·exact Kp.bel (Kp.setR (by simp) (Kp.setR (by simp) (Kp.setR (by simp) (Kp.setR (by simp) (HK11.out.trans kk2)))))
    ·have hp : doneL l 7 key val = (l, toldL l key) := by rw [hdl]; rfl
     rw [hp]
     have HN := hide (fun W v h => nth_any l v key W h)
     obtain ⟨tl, htl⟩ : ∃ tl, tl = toldL l key := ⟨_, rfl⟩
     rw [<- htl] at HN ⊢
     obtain ⟨ta, tb, tc, td⟩ := tl
     clear hp hdl hky hkd hky5 htl hkd'
     go_enter Tryz.func48, Tryz.ntmps48
     go_wp2_with (go_at_call 85; ((with_reducible refine (between_to _ _ _ true _ HBK.out).mono ?_); rintro e w' ⟨rfl, rfl⟩))
     refine (HH.out _ _ ((HR.out.alloc _).alloc _)).mono ?_
     rintro e w1 ⟨rfl, hb1⟩
     have hk1 : Kp W1 w1 := by rw [HW1.out]; exact hb1
     obtain ⟨o0, o1, o2, r0, r1, r2, r3, f0, f1, f2, f3⟩ := HDB.out.kp hk1
     have HR1 := hide (HR.out.kp (HK1.out.trans hk1))
     have HK11 := hide (HK1.out.trans hk1)
     have HKK := hide hk1
     clear hb1 hk1
     go_wp2_with fail
     refine (HN.out _ _ HR1.out).mono ?_
     rintro e w3 ⟨rfl, hb3⟩
     have kk3 := Kp.of hb3
     have hkk13 := Kp.trans (Kp.refl w1) kk3
     obtain ⟨o0, o1, o2, r0, r1, r2, r3, f0, f1, f2, f3⟩ := HDB.out.kp (HKK.out.trans hkk13)
     have HK3 := hide hkk13
     clear hb3 kk3 hkk13
     simp only [An.v]
     go_wp2
     refine bodyPost_ret (v := .tuple #[.slice Al l.length cl, ((⟨ta, tb, tc, td⟩ : An)).v]) (by simp [results, Tryz.results48, go_sem, An.v, r0, r1, r2, r3]) rfl ⟨_, rfl, ?_, ?_, ?_⟩
     ·exact (HR1.out.kp HK3.out).box' HR.out hza _ _ _ _
     ·exact .inl rfl
     ·exact Kp.bel (Kp.setR (by simp) (Kp.setR (by simp) (Kp.setR (by simp) (Kp.setR (by simp) (HK11.out.trans HK3.out)))))
 ·have HBK : Hid (btw kind 1 7 = false) := hide ((btw_f_iff _ _ _).2 hkd)
  have hp : doneL l kind key val = (l, ⟨1, 0, 0, false⟩) := by rw [doneL, if_pos (.inl hkd)]
  rw [hp]
  clear hkd hp
  go_enter Tryz.func48, Tryz.ntmps48
  go_wp2_with (go_at_call 85; ((with_reducible refine (between_to _ _ _ false _ HBK.out).mono ?_); rintro e w' ⟨rfl, rfl⟩))
  refine bodyPost_ret (v := .tuple #[.slice Al l.length cl, (⟨1, 0, 0, false⟩ : An).v]) (by simp [results, Tryz.results48, go_sem, An.v]) rfl ⟨_, rfl, (HR.out.alloc _).alloc _, .inl rfl, (Kp.refl w).alloc.alloc.bel⟩
end Go.Proofs.YtcljlnagpjilaaaGreatDoor
