/-
  plain.Do: what it answers
-/
import Derived.Test.YtcljlnagpjilaaaGreatDoorG7

set_option linter.unusedVariables false
set_option linter.unusedSimpArgs false
set_option maxRecDepth 100000
set_option maxHeartbeats 8000000
namespace Go.Proofs.YtcljlnagpjilaaaGreatDoor
open Go.ChangeShapes Go.WideShapes Go.ChangeAt Go.RowKit
def doL (l : List IP) (kind key val : Int) : List IP × An :=
 if ¬ (1 <= kind /\ kind <= 7) ∨ (kind <= 5 /\ ¬ (0 <= key /\ key <= 1000000)) then (l, ⟨1, 0, 0, false⟩)
 else if kind = 1 then putL l key val
 else if kind = 2 then (l, if hasKey l key then ⟨0, 0, gv l (below l key), true⟩ else ⟨0, 0, 0, false⟩)
 else if kind = 3 then (if hasKey l key then (l.take (below l key) ++ l.drop (below l key + 1), ⟨0, 0, gv l (below l key), true⟩) else (l, ⟨0, 0, 0, false⟩))
 else if kind = 4 then (l, toldL l (if hasKey l key then (below l key : Int) + 1 else below l key))
 else if kind = 5 then (l, toldL l ((below l key : Int) - 1))
 else if kind = 6 then (l, ⟨0, 0, below l key, true⟩)
 else (l, toldL l key)
def doA (l : List IP) (kind key val : Int) : List IP × An := if mapRight l = 0 then doL l kind key val else ([], ⟨mapRight l, 0, 0, false⟩)
def DoPost (r : List IP × An) (w : World) (e : Ending) (w' : World) : Prop := ∃ v', e = .returned (.tuple #[v', r.2.v]) /\ OW w' w.heap.size 141 ePair v' r.1 /\ Below w.heap.size w w'
def DB (a : Nat) (kind key val : Int) (W : World) : Prop :=
 W.cell? ⟨a, 0, none⟩ = some (.int .i64 kind) /\ W.cell? ⟨a, 1, none⟩ = some (.int .i64 key) /\ W.cell? ⟨a, 2, none⟩ = some (.int .i64 val) /\
 W.cell? ⟨a + 1, 0, none⟩ = some (.int .i64 0) /\ W.cell? ⟨a + 1, 1, none⟩ = some (.int .i64 0) /\ W.cell? ⟨a + 1, 2, none⟩ = some (.int .i64 0) /\ W.cell? ⟨a + 1, 3, none⟩ = some (.bool false) /\
 W.frozen? ⟨a + 1, 0, none⟩ = false /\ W.frozen? ⟨a + 1, 1, none⟩ = false /\ W.frozen? ⟨a + 1, 2, none⟩ = false /\ W.frozen? ⟨a + 1, 3, none⟩ = false
theorem DB.kp {a : Nat} {kind key val : Int} {W W' : World} (h : DB a kind key val W) (hk : Kp W W') : DB a kind key val W' := by
 obtain ⟨o0, o1, o2, r0, r1, r2, r3, f0, f1, f2, f3⟩ := h
 have hz := World.block_lt_of_cell? _ _ r0
 exact ⟨hk.cell o0, hk.cell o1, hk.cell o2, hk.cell r0, hk.cell r1, hk.cell r2, hk.cell r3, (hk.frozen (p := ⟨a + 1, 0, none⟩) hz).trans f0, (hk.frozen (p := ⟨a + 1, 1, none⟩) hz).trans f1, (hk.frozen (p := ⟨a + 1, 2, none⟩) hz).trans f2, (hk.frozen (p := ⟨a + 1, 3, none⟩) hz).trans f3⟩
theorem do_any (l : List IP) (kind key val : Int) (v : Value) (w : World) (hr : RD w ePair v l) :
  Calls Tryz.prog 69 #[v, .agg #[.int .i64 kind, .int .i64 key, .int .i64 val]] w (DoPost (doA l kind key val) w) := by
 have HR := hide hr
 obtain ⟨W1, hW1⟩ : ∃ W1, W1 = (w.alloc (.cells #[.int .i64 kind, .int .i64 key, .int .i64 val] 82)).alloc (.cells #[.int .i64 0, .int .i64 0, .int .i64 0, .bool false] 84) := ⟨_, rfl⟩
 have HK1 : Hid (Kp w W1) := hide (by rw [hW1]; exact (Kp.refl w).alloc.alloc)
 have HZ1 : Hid (W1.heap.size = w.heap.size + 2) := hide (by rw [hW1]; simp)
 have HDB : Hid (DB w.heap.size kind key val W1) := hide (by rw [hW1]; simp [DB, go_sem])
 have HW1 := hide hW1
 clear hr hW1
 by_cases h0 : mapRight l = 0
 ·have hn := mapRight_len l h0
  have hrise : Rise l := fun i j hi hj hij => mapRight_rise l h0 i j hi hj hij
  have hd0 : doA l kind key val = doL l kind key val := by rw [doA, if_pos h0]
  rw [hd0]
  have hb0 : (mapRight l != 0) = false := by simp [h0]
  have HRI := hide hrise
  have HMR := hide h0
  clear hrise hd0 h0
  by_cases hkd : 1 <= kind /\ kind <= 7
  ·have HBK : Hid (btw kind 1 7 = true) := hide ((btw_iff _ _ _).2 hkd)
   by_cases hky : kind <= 5 /\ ¬ (0 <= key /\ key <= 1000000)
   ·have HBY : Hid (btw key 0 1000000 = false) := hide ((btw_f_iff _ _ _).2 hky.2)
    have HP : Hid (doL l kind key val = (l, ⟨1, 0, 0, false⟩)) := hide (by rw [doL, if_pos (.inr hky)])
    have t5 : decide (kind <= 5) = true := by simp [hky.1]
    clear hky hkd
    go_enter Tryz.func69, Tryz.ntmps69
    go_wp2_with fail
    refine (check_any l _ _ ((HR.out.alloc _).alloc _)).mono ?_
    rintro e w1 ⟨rfl, hb1⟩
    have hk1 : Kp W1 w1 := by rw [HW1.out]; exact hb1
    clear hb1
    go_wp2_with fail
    refine (clonePairs_any l _ _ (HR.out.kp (HK1.out.trans hk1)) (by omega)).mono ?_
    rintro e w2 ⟨v2, rfl, ho2, hb2⟩
    have hk2 : Kp w1 w2 := hb2
    have hk12 : Kp W1 w2 := hk1.trans hk2
    obtain ⟨o0, o1, o2, r0, r1, r2, r3, f0, f1, f2, f3⟩ := HDB.out.kp hk12
    obtain ⟨A2, c2, rfl, hc2, hm2⟩ := ho2.rd.shape
    have HO2 := hide ho2
    have hz1 := hk1.size
    have hz2 := hk2.size
    have HHI := hide ho2.hi
    have HLO : Hid ((Value.slice A2 l.length c2).ownBlock ≠ some (w.heap.size + 1)) := hide (fun h => by have := ho2.lt _ h; have := HZ1.out; omega)
    have HK2 := hide hk2
    have HK12 := hide hk12
    have HK10 := hide (HK1.out.trans hk1)
    have HK11 := hide hk1
    have HZW : Hid (w.heap.size + 2 <= w1.heap.size) := hide (by have := HZ1.out; omega)
    clear ho2 hb2 hk1 hk2 hk12 hz1 hz2
    go_wp2_with (first
     | (go_at_call 108; ((with_reducible refine (within_to _ _ _ true _ HBK.out).mono ?_); rintro e w' ⟨rfl, rfl⟩))
     | (go_at_call 108; ((with_reducible refine (within_to _ _ _ false _ HBY.out).mono ?_); rintro e w' ⟨rfl, rfl⟩)))
    refine bodyPost_ret (v := .tuple #[.slice A2 l.length c2, ((⟨1, 0, 0, false⟩ : An)).v]) (by simp [results, Tryz.results69, go_sem, An.v, r0, r1, r2, r3]) rfl ⟨_, by rw [HP.out], ?_, ?_⟩
    ·rw [HP.out]; exact ((((HO2.out.setCell HLO.out _).setCell HLO.out _).setCell HLO.out _).setCell HLO.out _).more HK10.out.size
    ·exact Kp.bel (Kp.setR (by simp) (Kp.setR (by simp) (Kp.setR (by simp) (Kp.setR (by simp) (HK10.out.trans HK2.out)))))
   ·obtain ⟨b, hbe⟩ : ∃ b, b = below l key := ⟨_, rfl⟩
    obtain ⟨hs, hhe⟩ : ∃ hs, hs = hasKey l key := ⟨_, rfl⟩
    have hble := below_le l key
    have hkb : hs = true -> ∃ hb : b < l.length, l[b].1 = key := by rw [hhe, hbe]; exact (hasKey_iff l HRI.out key).1
    have HKB := hide hkb
    have HBE := hide hbe
    have HHE := hide hhe
    have HF := hide (fun W v h => find_any l v key W h (by omega) HRI.out)
    have hdl : doL l kind key val = if kind = 1 then putL l key val
      else if kind = 2 then (l, if hasKey l key then ⟨0, 0, gv l (below l key), true⟩ else ⟨0, 0, 0, false⟩)
      else if kind = 3 then (if hasKey l key then (l.take (below l key) ++ l.drop (below l key + 1), ⟨0, 0, gv l (below l key), true⟩) else (l, ⟨0, 0, 0, false⟩))
      else if kind = 4 then (l, toldL l (if hasKey l key then (below l key : Int) + 1 else below l key))
      else if kind = 5 then (l, toldL l ((below l key : Int) - 1))
      else if kind = 6 then (l, ⟨0, 0, below l key, true⟩)
      else (l, toldL l key) := by rw [doL, if_neg (by omega)]
    rw [<- hbe, <- hhe] at HF hdl
    rw [<- hbe] at hble
    have hkd' : kind = 1 ∨ kind = 2 ∨ kind = 3 ∨ kind = 4 ∨ kind = 5 ∨ kind = 6 ∨ kind = 7 := by omega
    have hbi : (b : Int) <= (l.length : Int) := by omega
    by_cases hky5 : kind <= 5
    ·have HBY : Hid (btw key 0 1000000 = true) := hide ((btw_iff _ _ _).2 (by omega))
     have t5 : decide (kind <= 5) = true := by simp [hky5]
     clear hbe hhe hkb
     rcases hkd' with rfl | rfl | rfl | rfl | rfl | h6 | h7
     ·-- put
      have HP : Hid (doL l 1 key val = putL l key val) := hide (by rw [hdl]; rfl)
      clear hdl hky hkd hky5 t5
      go_enter Tryz.func69, Tryz.ntmps69
      go_wp2_with fail
      refine (check_any l _ _ ((HR.out.alloc _).alloc _)).mono ?_
      rintro e w1 ⟨rfl, hb1⟩
      have hk1 : Kp W1 w1 := by rw [HW1.out]; exact hb1
      clear hb1
      go_wp2_with fail
      refine (clonePairs_any l _ _ (HR.out.kp (HK1.out.trans hk1)) (by omega)).mono ?_
      rintro e w2 ⟨v2, rfl, ho2, hb2⟩
      have hk2 : Kp w1 w2 := hb2
      have hk12 : Kp W1 w2 := hk1.trans hk2
      obtain ⟨o0, o1, o2, r0, r1, r2, r3, f0, f1, f2, f3⟩ := HDB.out.kp hk12
      obtain ⟨A2, c2, rfl, hc2, hm2⟩ := ho2.rd.shape
      have HO2 := hide ho2
      have hz1 := hk1.size
      have hz2 := hk2.size
      have HHI := hide ho2.hi
      have HLO : Hid ((Value.slice A2 l.length c2).ownBlock ≠ some (w.heap.size + 1)) := hide (fun h => by have := ho2.lt _ h; have := HZ1.out; omega)
      have HK2 := hide hk2
      have HK12 := hide hk12
      have HK10 := hide (HK1.out.trans hk1)
      have HK11 := hide hk1
      have HZW : Hid (w.heap.size + 2 <= w1.heap.size) := hide (by have := HZ1.out; omega)
      clear ho2 hb2 hk1 hk2 hk12 hz1 hz2
      go_wp2_with (first
       | (go_at_call 108; ((with_reducible refine (within_to _ _ _ true _ HBK.out).mono ?_); rintro e w' ⟨rfl, rfl⟩))
       | (go_at_call 108; ((with_reducible refine (within_to _ _ _ true _ HBY.out).mono ?_); rintro e w' ⟨rfl, rfl⟩)))
      refine (HF.out _ _ HO2.out.rd).mono ?_
      rintro e w3 ⟨rfl, hb3⟩
      have hk3 : Kp w2 w3 := hb3
      obtain ⟨o0, o1, o2, r0, r1, r2, r3, f0, f1, f2, f3⟩ := HDB.out.kp (HK12.out.trans hk3)
      have HO3 := hide (HO2.out.kp hk3)
      have HK3 := hide (HK2.out.trans hk3)
      have HK13 := hide (HK12.out.trans hk3)
      clear hb3 hk3
      go_wp2_with fail
      refine (put_any l key val _ w1 _ HO3.out HK3.out HRI.out (by omega)).mono ?_
      rintro e w4 ⟨v4, rfl, hr4, hk4⟩
      obtain ⟨o0, o1, o2, r0, r1, r2, r3, f0, f1, f2, f3⟩ := HDB.out.kp (HK11.out.trans hk4)
      obtain ⟨PL, hPL⟩ : ∃ PL, PL = putL l key val := ⟨_, rfl⟩
      rw [<- hPL] at HP hr4 ⊢
      obtain ⟨pl, pa, pb, pc, pd⟩ := PL
      have HO4 := hide hr4
      have HLO : Hid (v4.ownBlock ≠ some (w.heap.size + 1)) := hide (fun h => by have := hr4.lt _ h; have := HZW.out; omega)
      have HK4 := hide hk4
      clear hr4 hk4 hPL
      simp only [An.v]
      go_wp2
      refine bodyPost_ret (v := .tuple #[v4, ((⟨pa, pb, pc, pd⟩ : An)).v]) (by simp [results, Tryz.results69, go_sem, An.v, r0, r1, r2, r3]) rfl ⟨_, by rw [HP.out], ?_, ?_⟩
      ·rw [HP.out]; exact ((((HO4.out.setCell HLO.out _).setCell HLO.out _).setCell HLO.out _).setCell HLO.out _).more HK10.out.size
      ·exact Kp.bel (Kp.setR (by simp) (Kp.setR (by simp) (Kp.setR (by simp) (Kp.setR (by simp) (HK10.out.trans HK4.out)))))
     ·-- get
      cases hs with
      | true =>
       have HP : Hid (doL l 2 key val = (l, ⟨0, 0, gv l b, true⟩)) := hide (by rw [hdl]; rfl)
       clear hdl hky hkd hky5 t5
       go_enter Tryz.func69, Tryz.ntmps69
       go_wp2_with fail
       refine (check_any l _ _ ((HR.out.alloc _).alloc _)).mono ?_
       rintro e w1 ⟨rfl, hb1⟩
       have hk1 : Kp W1 w1 := by rw [HW1.out]; exact hb1
       clear hb1
       go_wp2_with fail
       refine (clonePairs_any l _ _ (HR.out.kp (HK1.out.trans hk1)) (by omega)).mono ?_
       rintro e w2 ⟨v2, rfl, ho2, hb2⟩
       have hk2 : Kp w1 w2 := hb2
       have hk12 : Kp W1 w2 := hk1.trans hk2
       obtain ⟨o0, o1, o2, r0, r1, r2, r3, f0, f1, f2, f3⟩ := HDB.out.kp hk12
       obtain ⟨A2, c2, rfl, hc2, hm2⟩ := ho2.rd.shape
       have HO2 := hide ho2
       have hz1 := hk1.size
       have hz2 := hk2.size
       have HHI := hide ho2.hi
       have HLO : Hid ((Value.slice A2 l.length c2).ownBlock ≠ some (w.heap.size + 1)) := hide (fun h => by have := ho2.lt _ h; have := HZ1.out; omega)
       have HK2 := hide hk2
       have HK12 := hide hk12
       have HK10 := hide (HK1.out.trans hk1)
       have HK11 := hide hk1
       have HZW : Hid (w.heap.size + 2 <= w1.heap.size) := hide (by have := HZ1.out; omega)
       clear ho2 hb2 hk1 hk2 hk12 hz1 hz2
       go_wp2_with (first
        | (go_at_call 108; ((with_reducible refine (within_to _ _ _ true _ HBK.out).mono ?_); rintro e w' ⟨rfl, rfl⟩))
        | (go_at_call 108; ((with_reducible refine (within_to _ _ _ true _ HBY.out).mono ?_); rintro e w' ⟨rfl, rfl⟩)))
       refine (HF.out _ _ HO2.out.rd).mono ?_
       rintro e w3 ⟨rfl, hb3⟩
       have hk3 : Kp w2 w3 := hb3
       obtain ⟨o0, o1, o2, r0, r1, r2, r3, f0, f1, f2, f3⟩ := HDB.out.kp (HK12.out.trans hk3)
       have HO3 := hide (HO2.out.kp hk3)
       have HK3 := hide (HK2.out.trans hk3)
       have HK13 := hide (HK12.out.trans hk3)
       clear hb3 hk3
       obtain ⟨hbl, hbk⟩ := HKB.out (by trivial)
       obtain ⟨g, go, rfl, _, c0, c1⟩ := HO3.out.rd.pair hbl
       have n1 : ¬ g = w.heap.size + 1 := fun h => HLO.out (by rw [h]; rfl)
       have n2 : ¬ w.heap.size + 1 = g := fun h => n1 h.symm
       have bb : (b : Int) < (l.length : Int) := by omega
       have b0 : (0 : Int) <= (b : Int) := by omega
       have hgv := gv_eq l b hbl
       rw [hgv] at HP
       clear hbk hgv
       go_wp2_with fail
       go_region_held3 (fun w' => w'.cell? ⟨g, go + b * 2 + 1, none⟩ = some (.int .i64 l[b].2)) (first | go_keep | fail) (fail)
       go_wp2
       refine bodyPost_ret (v := .tuple #[.slice (some ⟨g, go, none⟩) l.length c2, ((⟨0, 0, l[b].2, true⟩ : An)).v]) (by simp [results, Tryz.results69, go_sem, An.v, r0, r1, r2, r3]) rfl ⟨_, by rw [HP.out], ?_, ?_⟩
       ·rw [HP.out]; exact ((((HO3.out.drew.setCell HLO.out _).setCell HLO.out _).setCell HLO.out _).setCell HLO.out _).more HK10.out.size
       ·exact Kp.bel (Kp.setR (by simp) (Kp.setR (by simp) (Kp.setR (by simp) (Kp.setR (by simp) (HK10.out.trans HK3.out).drew))))
      | false =>
       have HP : Hid (doL l 2 key val = (l, ⟨0, 0, 0, false⟩)) := hide (by rw [hdl]; rfl)
       clear hdl hky hkd hky5 t5
       go_enter Tryz.func69, Tryz.ntmps69
       go_wp2_with fail
       refine (check_any l _ _ ((HR.out.alloc _).alloc _)).mono ?_
       rintro e w1 ⟨rfl, hb1⟩
       have hk1 : Kp W1 w1 := by rw [HW1.out]; exact hb1
       clear hb1
       go_wp2_with fail
       refine (clonePairs_any l _ _ (HR.out.kp (HK1.out.trans hk1)) (by omega)).mono ?_
       rintro e w2 ⟨v2, rfl, ho2, hb2⟩
       have hk2 : Kp w1 w2 := hb2
       have hk12 : Kp W1 w2 := hk1.trans hk2
       obtain ⟨o0, o1, o2, r0, r1, r2, r3, f0, f1, f2, f3⟩ := HDB.out.kp hk12
       obtain ⟨A2, c2, rfl, hc2, hm2⟩ := ho2.rd.shape
       have HO2 := hide ho2
       have hz1 := hk1.size
       have hz2 := hk2.size
       have HHI := hide ho2.hi
       have HLO : Hid ((Value.slice A2 l.length c2).ownBlock ≠ some (w.heap.size + 1)) := hide (fun h => by have := ho2.lt _ h; have := HZ1.out; omega)
       have HK2 := hide hk2
       have HK12 := hide hk12
       have HK10 := hide (HK1.out.trans hk1)
       have HK11 := hide hk1
       have HZW : Hid (w.heap.size + 2 <= w1.heap.size) := hide (by have := HZ1.out; omega)
       clear ho2 hb2 hk1 hk2 hk12 hz1 hz2
       go_wp2_with (first
        | (go_at_call 108; ((with_reducible refine (within_to _ _ _ true _ HBK.out).mono ?_); rintro e w' ⟨rfl, rfl⟩))
        | (go_at_call 108; ((with_reducible refine (within_to _ _ _ true _ HBY.out).mono ?_); rintro e w' ⟨rfl, rfl⟩)))
       refine (HF.out _ _ HO2.out.rd).mono ?_
       rintro e w3 ⟨rfl, hb3⟩
       have hk3 : Kp w2 w3 := hb3
       obtain ⟨o0, o1, o2, r0, r1, r2, r3, f0, f1, f2, f3⟩ := HDB.out.kp (HK12.out.trans hk3)
       have HO3 := hide (HO2.out.kp hk3)
       have HK3 := hide (HK2.out.trans hk3)
       have HK13 := hide (HK12.out.trans hk3)
       clear hb3 hk3
       go_wp2
       refine bodyPost_ret (v := .tuple #[.slice A2 l.length c2, ((⟨0, 0, 0, false⟩ : An)).v]) (by simp [results, Tryz.results69, go_sem, An.v, r0, r1, r2, r3]) rfl ⟨_, by rw [HP.out], ?_, ?_⟩
       ·rw [HP.out]; exact ((((HO3.out.setCell HLO.out _).setCell HLO.out _).setCell HLO.out _).setCell HLO.out _).more HK10.out.size
       ·exact Kp.bel (Kp.setR (by simp) (Kp.setR (by simp) (Kp.setR (by simp) (Kp.setR (by simp) (HK10.out.trans HK3.out)))))
     ·-- cut
      cases hs with
      | true =>
       have HP : Hid (doL l 3 key val = (l.take b ++ l.drop (b + 1), ⟨0, 0, gv l b, true⟩)) := hide (by rw [hdl]; rfl)
       clear hdl hky hkd hky5 t5
       go_enter Tryz.func69, Tryz.ntmps69
       go_wp2_with fail
       refine (check_any l _ _ ((HR.out.alloc _).alloc _)).mono ?_
       rintro e w1 ⟨rfl, hb1⟩
       have hk1 : Kp W1 w1 := by rw [HW1.out]; exact hb1
       clear hb1
       go_wp2_with fail
       refine (clonePairs_any l _ _ (HR.out.kp (HK1.out.trans hk1)) (by omega)).mono ?_
       rintro e w2 ⟨v2, rfl, ho2, hb2⟩
       have hk2 : Kp w1 w2 := hb2
       have hk12 : Kp W1 w2 := hk1.trans hk2
       obtain ⟨o0, o1, o2, r0, r1, r2, r3, f0, f1, f2, f3⟩ := HDB.out.kp hk12
       obtain ⟨A2, c2, rfl, hc2, hm2⟩ := ho2.rd.shape
       have HO2 := hide ho2
       have hz1 := hk1.size
       have hz2 := hk2.size
       have HHI := hide ho2.hi
       have HLO : Hid ((Value.slice A2 l.length c2).ownBlock ≠ some (w.heap.size + 1)) := hide (fun h => by have := ho2.lt _ h; have := HZ1.out; omega)
       have HK2 := hide hk2
       have HK12 := hide hk12
       have HK10 := hide (HK1.out.trans hk1)
       have HK11 := hide hk1
       have HZW : Hid (w.heap.size + 2 <= w1.heap.size) := hide (by have := HZ1.out; omega)
       clear ho2 hb2 hk1 hk2 hk12 hz1 hz2
       go_wp2_with (first
        | (go_at_call 108; ((with_reducible refine (within_to _ _ _ true _ HBK.out).mono ?_); rintro e w' ⟨rfl, rfl⟩))
        | (go_at_call 108; ((with_reducible refine (within_to _ _ _ true _ HBY.out).mono ?_); rintro e w' ⟨rfl, rfl⟩)))
       refine (HF.out _ _ HO2.out.rd).mono ?_
       rintro e w3 ⟨rfl, hb3⟩
       have hk3 : Kp w2 w3 := hb3
       obtain ⟨o0, o1, o2, r0, r1, r2, r3, f0, f1, f2, f3⟩ := HDB.out.kp (HK12.out.trans hk3)
       have HO3 := hide (HO2.out.kp hk3)
       have HK3 := hide (HK2.out.trans hk3)
       have HK13 := hide (HK12.out.trans hk3)
       clear hb3 hk3
       obtain ⟨hbl, hbk⟩ := HKB.out (by trivial)
       obtain ⟨g, go, rfl, _, c0, c1⟩ := HO3.out.rd.pair hbl
       have n1 : ¬ g = w.heap.size + 1 := fun h => HLO.out (by rw [h]; rfl)
       have n2 : ¬ w.heap.size + 1 = g := fun h => n1 h.symm
       have bb : (b : Int) < (l.length : Int) := by omega
       have b0 : (0 : Int) <= (b : Int) := by omega
       have hgv := gv_eq l b hbl
       rw [hgv] at HP
       clear hbk hgv
       go_wp2_with fail
       refine (deletePair_any l b _ w1.heap.size _ HO3.out hbl (by omega)).mono ?_
       rintro e w4 ⟨v4, rfl, ho4, hg4, hat4⟩
       have hk4 : Kp w1 w4 := Kp.app hg4 HK3.out HHI.out
       obtain ⟨o0, o1, o2, r0, r1, r2, r3, f0, f1, f2, f3⟩ := HDB.out.kp (HK11.out.trans hk4)
       have HO4 := hide ho4
       have HLO : Hid (v4.ownBlock ≠ some (w.heap.size + 1)) := hide (fun h => by have := ho4.lt _ h; have := HZW.out; omega)
       have HK4 := hide hk4
       clear ho4 hk4 hg4 hat4
       go_wp2
       refine bodyPost_ret (v := .tuple #[v4, ((⟨0, 0, l[b].2, true⟩ : An)).v]) (by simp [results, Tryz.results69, go_sem, An.v, r0, r1, r2, r3]) rfl ⟨_, by rw [HP.out], ?_, ?_⟩
       ·rw [HP.out]; exact ((((HO4.out.setCell HLO.out _).setCell HLO.out _).setCell HLO.out _).setCell HLO.out _).more HK10.out.size
       ·exact Kp.bel (Kp.setR (by simp) (Kp.setR (by simp) (Kp.setR (by simp) (Kp.setR (by simp) (HK10.out.trans HK4.out)))))
      | false =>
       have HP : Hid (doL l 3 key val = (l, ⟨0, 0, 0, false⟩)) := hide (by rw [hdl]; rfl)
       clear hdl hky hkd hky5 t5
       go_enter Tryz.func69, Tryz.ntmps69
       go_wp2_with fail
       refine (check_any l _ _ ((HR.out.alloc _).alloc _)).mono ?_
       rintro e w1 ⟨rfl, hb1⟩
       have hk1 : Kp W1 w1 := by rw [HW1.out]; exact hb1
       clear hb1
       go_wp2_with fail
       refine (clonePairs_any l _ _ (HR.out.kp (HK1.out.trans hk1)) (by omega)).mono ?_
       rintro e w2 ⟨v2, rfl, ho2, hb2⟩
       have hk2 : Kp w1 w2 := hb2
       have hk12 : Kp W1 w2 := hk1.trans hk2
       obtain ⟨o0, o1, o2, r0, r1, r2, r3, f0, f1, f2, f3⟩ := HDB.out.kp hk12
       obtain ⟨A2, c2, rfl, hc2, hm2⟩ := ho2.rd.shape
       have HO2 := hide ho2
       have hz1 := hk1.size
       have hz2 := hk2.size
       have HHI := hide ho2.hi
       have HLO : Hid ((Value.slice A2 l.length c2).ownBlock ≠ some (w.heap.size + 1)) := hide (fun h => by have := ho2.lt _ h; have := HZ1.out; omega)
       have HK2 := hide hk2
       have HK12 := hide hk12
       have HK10 := hide (HK1.out.trans hk1)
       have HK11 := hide hk1
       have HZW : Hid (w.heap.size + 2 <= w1.heap.size) := hide (by have := HZ1.out; omega)
       clear ho2 hb2 hk1 hk2 hk12 hz1 hz2
       go_wp2_with (first
        | (go_at_call 108; ((with_reducible refine (within_to _ _ _ true _ HBK.out).mono ?_); rintro e w' ⟨rfl, rfl⟩))
        | (go_at_call 108; ((with_reducible refine (within_to _ _ _ true _ HBY.out).mono ?_); rintro e w' ⟨rfl, rfl⟩)))
       refine (HF.out _ _ HO2.out.rd).mono ?_
       rintro e w3 ⟨rfl, hb3⟩
       have hk3 : Kp w2 w3 := hb3
       obtain ⟨o0, o1, o2, r0, r1, r2, r3, f0, f1, f2, f3⟩ := HDB.out.kp (HK12.out.trans hk3)
       have HO3 := hide (HO2.out.kp hk3)
       have HK3 := hide (HK2.out.trans hk3)
       have HK13 := hide (HK12.out.trans hk3)
       clear hb3 hk3
       go_wp2
       refine bodyPost_ret (v := .tuple #[.slice A2 l.length c2, ((⟨0, 0, 0, false⟩ : An)).v]) (by simp [results, Tryz.results69, go_sem, An.v, r0, r1, r2, r3]) rfl ⟨_, by rw [HP.out], ?_, ?_⟩
       ·rw [HP.out]; exact ((((HO3.out.setCell HLO.out _).setCell HLO.out _).setCell HLO.out _).setCell HLO.out _).more HK10.out.size
       ·exact Kp.bel (Kp.setR (by simp) (Kp.setR (by simp) (Kp.setR (by simp) (Kp.setR (by simp) (HK10.out.trans HK3.out)))))
     ·-- next
      cases hs with
      | true =>
       have HP : Hid (doL l 4 key val = (l, toldL l ((b : Int) + 1))) := hide (by rw [hdl]; rfl)
       clear hdl hky hkd hky5 t5
       go_enter Tryz.func69, Tryz.ntmps69
       go_wp2_with fail
       refine (check_any l _ _ ((HR.out.alloc _).alloc _)).mono ?_
       rintro e w1 ⟨rfl, hb1⟩
       have hk1 : Kp W1 w1 := by rw [HW1.out]; exact hb1
       clear hb1
       go_wp2_with fail
       refine (clonePairs_any l _ _ (HR.out.kp (HK1.out.trans hk1)) (by omega)).mono ?_
       rintro e w2 ⟨v2, rfl, ho2, hb2⟩
       have hk2 : Kp w1 w2 := hb2
       have hk12 : Kp W1 w2 := hk1.trans hk2
       obtain ⟨o0, o1, o2, r0, r1, r2, r3, f0, f1, f2, f3⟩ := HDB.out.kp hk12
       obtain ⟨A2, c2, rfl, hc2, hm2⟩ := ho2.rd.shape
       have HO2 := hide ho2
       have hz1 := hk1.size
       have hz2 := hk2.size
       have HHI := hide ho2.hi
       have HLO : Hid ((Value.slice A2 l.length c2).ownBlock ≠ some (w.heap.size + 1)) := hide (fun h => by have := ho2.lt _ h; have := HZ1.out; omega)
       have HK2 := hide hk2
       have HK12 := hide hk12
       have HK10 := hide (HK1.out.trans hk1)
       have HK11 := hide hk1
       have HZW : Hid (w.heap.size + 2 <= w1.heap.size) := hide (by have := HZ1.out; omega)
       clear ho2 hb2 hk1 hk2 hk12 hz1 hz2
       go_wp2_with (first
        | (go_at_call 108; ((with_reducible refine (within_to _ _ _ true _ HBK.out).mono ?_); rintro e w' ⟨rfl, rfl⟩))
        | (go_at_call 108; ((with_reducible refine (within_to _ _ _ true _ HBY.out).mono ?_); rintro e w' ⟨rfl, rfl⟩)))
       refine (HF.out _ _ HO2.out.rd).mono ?_
       rintro e w3 ⟨rfl, hb3⟩
       have hk3 : Kp w2 w3 := hb3
       obtain ⟨o0, o1, o2, r0, r1, r2, r3, f0, f1, f2, f3⟩ := HDB.out.kp (HK12.out.trans hk3)
       have HO3 := hide (HO2.out.kp hk3)
       have HK3 := hide (HK2.out.trans hk3)
       have HK13 := hide (HK12.out.trans hk3)
       clear hb3 hk3
       go_wp2_with fail
       refine (told_any l _ ((b : Int) + 1) _ HO3.out.rd (by omega)).mono ?_
       rintro e w4 ⟨rfl, hb4⟩
       have hk4 : Kp w3 w4 := hb4
       obtain ⟨o0, o1, o2, r0, r1, r2, r3, f0, f1, f2, f3⟩ := HDB.out.kp (HK13.out.trans hk4)
       obtain ⟨TA, hTA⟩ : ∃ TA, TA = toldL l ((b : Int) + 1) := ⟨_, rfl⟩
       rw [<- hTA] at HP ⊢
       obtain ⟨ta, tb, tc, td⟩ := TA
       have HO4 := hide (HO3.out.kp hk4)
       have HK4 := hide (HK3.out.trans hk4)
       clear hb4 hk4 hTA
       simp only [An.v]
       go_wp2
       refine bodyPost_ret (v := .tuple #[.slice A2 l.length c2, ((⟨ta, tb, tc, td⟩ : An)).v]) (by simp [results, Tryz.results69, go_sem, An.v, r0, r1, r2, r3]) rfl ⟨_, by rw [HP.out], ?_, ?_⟩
       ·rw [HP.out]; exact ((((HO4.out.setCell HLO.out _).setCell HLO.out _).setCell HLO.out _).setCell HLO.out _).more HK10.out.size
       ·exact Kp.bel (Kp.setR (by simp) (Kp.setR (by simp) (Kp.setR (by simp) (Kp.setR (by simp) (HK10.out.trans HK4.out)))))
      | false =>
       have HP : Hid (doL l 4 key val = (l, toldL l (b : Int))) := hide (by rw [hdl]; rfl)
       clear hdl hky hkd hky5 t5
       go_enter Tryz.func69, Tryz.ntmps69
       go_wp2_with fail
       refine (check_any l _ _ ((HR.out.alloc _).alloc _)).mono ?_
       rintro e w1 ⟨rfl, hb1⟩
       have hk1 : Kp W1 w1 := by rw [HW1.out]; exact hb1
       clear hb1
       go_wp2_with fail
       refine (clonePairs_any l _ _ (HR.out.kp (HK1.out.trans hk1)) (by omega)).mono ?_
       rintro e w2 ⟨v2, rfl, ho2, hb2⟩
       have hk2 : Kp w1 w2 := hb2
       have hk12 : Kp W1 w2 := hk1.trans hk2
       obtain ⟨o0, o1, o2, r0, r1, r2, r3, f0, f1, f2, f3⟩ := HDB.out.kp hk12
       obtain ⟨A2, c2, rfl, hc2, hm2⟩ := ho2.rd.shape
       have HO2 := hide ho2
       have hz1 := hk1.size
       have hz2 := hk2.size
       have HHI := hide ho2.hi
       have HLO : Hid ((Value.slice A2 l.length c2).ownBlock ≠ some (w.heap.size + 1)) := hide (fun h => by have := ho2.lt _ h; have := HZ1.out; omega)
       have HK2 := hide hk2
       have HK12 := hide hk12
       have HK10 := hide (HK1.out.trans hk1)
       have HK11 := hide hk1
       have HZW : Hid (w.heap.size + 2 <= w1.heap.size) := hide (by have := HZ1.out; omega)
       clear ho2 hb2 hk1 hk2 hk12 hz1 hz2
       go_wp2_with (first
        | (go_at_call 108; ((with_reducible refine (within_to _ _ _ true _ HBK.out).mono ?_); rintro e w' ⟨rfl, rfl⟩))
        | (go_at_call 108; ((with_reducible refine (within_to _ _ _ true _ HBY.out).mono ?_); rintro e w' ⟨rfl, rfl⟩)))
       refine (HF.out _ _ HO2.out.rd).mono ?_
       rintro e w3 ⟨rfl, hb3⟩
       have hk3 : Kp w2 w3 := hb3
       obtain ⟨o0, o1, o2, r0, r1, r2, r3, f0, f1, f2, f3⟩ := HDB.out.kp (HK12.out.trans hk3)
       have HO3 := hide (HO2.out.kp hk3)
       have HK3 := hide (HK2.out.trans hk3)
       have HK13 := hide (HK12.out.trans hk3)
       clear hb3 hk3
       go_wp2_with fail
       refine (told_any l _ (b : Int) _ HO3.out.rd (by omega)).mono ?_
       rintro e w4 ⟨rfl, hb4⟩
       have hk4 : Kp w3 w4 := hb4
       obtain ⟨o0, o1, o2, r0, r1, r2, r3, f0, f1, f2, f3⟩ := HDB.out.kp (HK13.out.trans hk4)
       obtain ⟨TA, hTA⟩ : ∃ TA, TA = toldL l (b : Int) := ⟨_, rfl⟩
       rw [<- hTA] at HP ⊢
       obtain ⟨ta, tb, tc, td⟩ := TA
       have HO4 := hide (HO3.out.kp hk4)
       have HK4 := hide (HK3.out.trans hk4)
       clear hb4 hk4 hTA
       simp only [An.v]
       go_wp2
       refine bodyPost_ret (v := .tuple #[.slice A2 l.length c2, ((⟨ta, tb, tc, td⟩ : An)).v]) (by simp [results, Tryz.results69, go_sem, An.v, r0, r1, r2, r3]) rfl ⟨_, by rw [HP.out], ?_, ?_⟩
       ·rw [HP.out]; exact ((((HO4.out.setCell HLO.out _).setCell HLO.out _).setCell HLO.out _).setCell HLO.out _).more HK10.out.size
       ·exact Kp.bel (Kp.setR (by simp) (Kp.setR (by simp) (Kp.setR (by simp) (Kp.setR (by simp) (HK10.out.trans HK4.out)))))
     ·-- prev
      have HP : Hid (doL l 5 key val = (l, toldL l ((b : Int) - 1))) := hide (by rw [hdl]; rfl)
      have hwb : IntKind.i64.wrap ((b : Int) - 1) = (b : Int) - 1 := IntWalk.i64_in _ (by omega)
      clear hdl hky hkd hky5 t5
      go_enter Tryz.func69, Tryz.ntmps69
      go_wp2_with fail
      refine (check_any l _ _ ((HR.out.alloc _).alloc _)).mono ?_
      rintro e w1 ⟨rfl, hb1⟩
      have hk1 : Kp W1 w1 := by rw [HW1.out]; exact hb1
      clear hb1
      go_wp2_with fail
      refine (clonePairs_any l _ _ (HR.out.kp (HK1.out.trans hk1)) (by omega)).mono ?_
      rintro e w2 ⟨v2, rfl, ho2, hb2⟩
      have hk2 : Kp w1 w2 := hb2
      have hk12 : Kp W1 w2 := hk1.trans hk2
      obtain ⟨o0, o1, o2, r0, r1, r2, r3, f0, f1, f2, f3⟩ := HDB.out.kp hk12
      obtain ⟨A2, c2, rfl, hc2, hm2⟩ := ho2.rd.shape
      have HO2 := hide ho2
      have hz1 := hk1.size
      have hz2 := hk2.size
      have HHI := hide ho2.hi
      have HLO : Hid ((Value.slice A2 l.length c2).ownBlock ≠ some (w.heap.size + 1)) := hide (fun h => by have := ho2.lt _ h; have := HZ1.out; omega)
      have HK2 := hide hk2
      have HK12 := hide hk12
      have HK10 := hide (HK1.out.trans hk1)
      have HK11 := hide hk1
      have HZW : Hid (w.heap.size + 2 <= w1.heap.size) := hide (by have := HZ1.out; omega)
      clear ho2 hb2 hk1 hk2 hk12 hz1 hz2
      go_wp2_with (first
       | (go_at_call 108; ((with_reducible refine (within_to _ _ _ true _ HBK.out).mono ?_); rintro e w' ⟨rfl, rfl⟩))
       | (go_at_call 108; ((with_reducible refine (within_to _ _ _ true _ HBY.out).mono ?_); rintro e w' ⟨rfl, rfl⟩)))
      refine (HF.out _ _ HO2.out.rd).mono ?_
      rintro e w3 ⟨rfl, hb3⟩
      have hk3 : Kp w2 w3 := hb3
      obtain ⟨o0, o1, o2, r0, r1, r2, r3, f0, f1, f2, f3⟩ := HDB.out.kp (HK12.out.trans hk3)
      have HO3 := hide (HO2.out.kp hk3)
      have HK3 := hide (HK2.out.trans hk3)
      have HK13 := hide (HK12.out.trans hk3)
      clear hb3 hk3
      go_wp2_with fail
      refine (told_any l _ ((b : Int) - 1) _ HO3.out.rd (by omega)).mono ?_
      rintro e w4 ⟨rfl, hb4⟩
      have hk4 : Kp w3 w4 := hb4
      obtain ⟨o0, o1, o2, r0, r1, r2, r3, f0, f1, f2, f3⟩ := HDB.out.kp (HK13.out.trans hk4)
      obtain ⟨TA, hTA⟩ : ∃ TA, TA = toldL l ((b : Int) - 1) := ⟨_, rfl⟩
      rw [<- hTA] at HP ⊢
      obtain ⟨ta, tb, tc, td⟩ := TA
      have HO4 := hide (HO3.out.kp hk4)
      have HK4 := hide (HK3.out.trans hk4)
      clear hb4 hk4 hTA
      simp only [An.v]
      go_wp2
      refine bodyPost_ret (v := .tuple #[.slice A2 l.length c2, ((⟨ta, tb, tc, td⟩ : An)).v]) (by simp [results, Tryz.results69, go_sem, An.v, r0, r1, r2, r3]) rfl ⟨_, by rw [HP.out], ?_, ?_⟩
      ·rw [HP.out]; exact ((((HO4.out.setCell HLO.out _).setCell HLO.out _).setCell HLO.out _).setCell HLO.out _).more HK10.out.size
      ·exact Kp.bel (Kp.setR (by simp) (Kp.setR (by simp) (Kp.setR (by simp) (Kp.setR (by simp) (HK10.out.trans HK4.out)))))
     ·omega
     ·omega
    ·clear hbe hhe hkb
     have hkd6 : kind = 6 ∨ kind = 7 := by omega
     rcases hkd6 with rfl | rfl
     ·have HP : Hid (doL l 6 key val = (l, ⟨0, 0, (b : Int), true⟩)) := hide (by rw [hdl]; rfl)
      clear hdl hky hkd hky5 hkd'
      go_enter Tryz.func69, Tryz.ntmps69
      go_wp2_with fail
      refine (check_any l _ _ ((HR.out.alloc _).alloc _)).mono ?_
      rintro e w1 ⟨rfl, hb1⟩
      have hk1 : Kp W1 w1 := by rw [HW1.out]; exact hb1
      clear hb1
      go_wp2_with fail
      refine (clonePairs_any l _ _ (HR.out.kp (HK1.out.trans hk1)) (by omega)).mono ?_
      rintro e w2 ⟨v2, rfl, ho2, hb2⟩
      have hk2 : Kp w1 w2 := hb2
      have hk12 : Kp W1 w2 := hk1.trans hk2
      obtain ⟨o0, o1, o2, r0, r1, r2, r3, f0, f1, f2, f3⟩ := HDB.out.kp hk12
      obtain ⟨A2, c2, rfl, hc2, hm2⟩ := ho2.rd.shape
      have HO2 := hide ho2
      have hz1 := hk1.size
      have hz2 := hk2.size
      have HHI := hide ho2.hi
      have HLO : Hid ((Value.slice A2 l.length c2).ownBlock ≠ some (w.heap.size + 1)) := hide (fun h => by have := ho2.lt _ h; have := HZ1.out; omega)
      have HK2 := hide hk2
      have HK12 := hide hk12
      have HK10 := hide (HK1.out.trans hk1)
      have HK11 := hide hk1
      have HZW : Hid (w.heap.size + 2 <= w1.heap.size) := hide (by have := HZ1.out; omega)
      clear ho2 hb2 hk1 hk2 hk12 hz1 hz2
      go_wp2_with ((go_at_call 108; ((with_reducible refine (within_to _ _ _ true _ HBK.out).mono ?_); rintro e w' ⟨rfl, rfl⟩)))
      refine (HF.out _ _ HO2.out.rd).mono ?_
      rintro e w3 ⟨rfl, hb3⟩
      have hk3 : Kp w2 w3 := hb3
      obtain ⟨o0, o1, o2, r0, r1, r2, r3, f0, f1, f2, f3⟩ := HDB.out.kp (HK12.out.trans hk3)
      have HO3 := hide (HO2.out.kp hk3)
      have HK3 := hide (HK2.out.trans hk3)
      have HK13 := hide (HK12.out.trans hk3)
      clear hb3 hk3
      go_wp2
      refine bodyPost_ret (v := .tuple #[.slice A2 l.length c2, ((⟨0, 0, (b : Int), true⟩ : An)).v]) (by simp [results, Tryz.results69, go_sem, An.v, r0, r1, r2, r3]) rfl ⟨_, by rw [HP.out], ?_, ?_⟩
      ·rw [HP.out]; exact ((((HO3.out.setCell HLO.out _).setCell HLO.out _).setCell HLO.out _).setCell HLO.out _).more HK10.out.size
      ·exact Kp.bel (Kp.setR (by simp) (Kp.setR (by simp) (Kp.setR (by simp) (Kp.setR (by simp) (HK10.out.trans HK3.out)))))
     ·have HP : Hid (doL l 7 key val = (l, toldL l key)) := hide (by rw [hdl]; rfl)
      clear hdl hky hkd hky5 hkd'
      go_enter Tryz.func69, Tryz.ntmps69
      go_wp2_with fail
      refine (check_any l _ _ ((HR.out.alloc _).alloc _)).mono ?_
      rintro e w1 ⟨rfl, hb1⟩
      have hk1 : Kp W1 w1 := by rw [HW1.out]; exact hb1
      clear hb1
      go_wp2_with fail
      refine (clonePairs_any l _ _ (HR.out.kp (HK1.out.trans hk1)) (by omega)).mono ?_
      rintro e w2 ⟨v2, rfl, ho2, hb2⟩
      have hk2 : Kp w1 w2 := hb2
      have hk12 : Kp W1 w2 := hk1.trans hk2
      obtain ⟨o0, o1, o2, r0, r1, r2, r3, f0, f1, f2, f3⟩ := HDB.out.kp hk12
      obtain ⟨A2, c2, rfl, hc2, hm2⟩ := ho2.rd.shape
      have HO2 := hide ho2
      have hz1 := hk1.size
      have hz2 := hk2.size
      have HHI := hide ho2.hi
      have HLO : Hid ((Value.slice A2 l.length c2).ownBlock ≠ some (w.heap.size + 1)) := hide (fun h => by have := ho2.lt _ h; have := HZ1.out; omega)
      have HK2 := hide hk2
      have HK12 := hide hk12
      have HK10 := hide (HK1.out.trans hk1)
      have HK11 := hide hk1
      have HZW : Hid (w.heap.size + 2 <= w1.heap.size) := hide (by have := HZ1.out; omega)
      clear ho2 hb2 hk1 hk2 hk12 hz1 hz2
      go_wp2_with ((go_at_call 108; ((with_reducible refine (within_to _ _ _ true _ HBK.out).mono ?_); rintro e w' ⟨rfl, rfl⟩)))
      refine (HF.out _ _ HO2.out.rd).mono ?_
      rintro e w3 ⟨rfl, hb3⟩
      have hk3 : Kp w2 w3 := hb3
      obtain ⟨o0, o1, o2, r0, r1, r2, r3, f0, f1, f2, f3⟩ := HDB.out.kp (HK12.out.trans hk3)
      have HO3 := hide (HO2.out.kp hk3)
      have HK3 := hide (HK2.out.trans hk3)
      have HK13 := hide (HK12.out.trans hk3)
      clear hb3 hk3
      go_wp2_with fail
      refine (told_any l _ key _ HO3.out.rd (by omega)).mono ?_
      rintro e w4 ⟨rfl, hb4⟩
      have hk4 : Kp w3 w4 := hb4
      obtain ⟨o0, o1, o2, r0, r1, r2, r3, f0, f1, f2, f3⟩ := HDB.out.kp (HK13.out.trans hk4)
      obtain ⟨TA, hTA⟩ : ∃ TA, TA = toldL l key := ⟨_, rfl⟩
      rw [<- hTA] at HP ⊢
      obtain ⟨ta, tb, tc, td⟩ := TA
      have HO4 := hide (HO3.out.kp hk4)
      have HK4 := hide (HK3.out.trans hk4)
      clear hb4 hk4 hTA
      simp only [An.v]
      go_wp2
      refine bodyPost_ret (v := .tuple #[.slice A2 l.length c2, ((⟨ta, tb, tc, td⟩ : An)).v]) (by simp [results, Tryz.results69, go_sem, An.v, r0, r1, r2, r3]) rfl ⟨_, by rw [HP.out], ?_, ?_⟩
      ·rw [HP.out]; exact ((((HO4.out.setCell HLO.out _).setCell HLO.out _).setCell HLO.out _).setCell HLO.out _).more HK10.out.size
      ·exact Kp.bel (Kp.setR (by simp) (Kp.setR (by simp) (Kp.setR (by simp) (Kp.setR (by simp) (HK10.out.trans HK4.out)))))
  ·have HBK : Hid (btw kind 1 7 = false) := hide ((btw_f_iff _ _ _).2 hkd)
   have HP : Hid (doL l kind key val = (l, ⟨1, 0, 0, false⟩)) := hide (by rw [doL, if_pos (.inl hkd)])
   clear hkd
   go_enter Tryz.func69, Tryz.ntmps69
   go_wp2_with fail
   refine (check_any l _ _ ((HR.out.alloc _).alloc _)).mono ?_
   rintro e w1 ⟨rfl, hb1⟩
   have hk1 : Kp W1 w1 := by rw [HW1.out]; exact hb1
   clear hb1
   go_wp2_with fail
   refine (clonePairs_any l _ _ (HR.out.kp (HK1.out.trans hk1)) (by omega)).mono ?_
   rintro e w2 ⟨v2, rfl, ho2, hb2⟩
   have hk2 : Kp w1 w2 := hb2
   have hk12 : Kp W1 w2 := hk1.trans hk2
   obtain ⟨o0, o1, o2, r0, r1, r2, r3, f0, f1, f2, f3⟩ := HDB.out.kp hk12
   obtain ⟨A2, c2, rfl, hc2, hm2⟩ := ho2.rd.shape
   have HO2 := hide ho2
   have hz1 := hk1.size
   have hz2 := hk2.size
   have HHI := hide ho2.hi
   have HLO : Hid ((Value.slice A2 l.length c2).ownBlock ≠ some (w.heap.size + 1)) := hide (fun h => by have := ho2.lt _ h; have := HZ1.out; omega)
   have HK2 := hide hk2
   have HK12 := hide hk12
   have HK10 := hide (HK1.out.trans hk1)
   have HK11 := hide hk1
   have HZW : Hid (w.heap.size + 2 <= w1.heap.size) := hide (by have := HZ1.out; omega)
   clear ho2 hb2 hk1 hk2 hk12 hz1 hz2
   go_wp2_with (go_at_call 108; ((with_reducible refine (within_to _ _ _ false _ HBK.out).mono ?_); rintro e w' ⟨rfl, rfl⟩))
   refine bodyPost_ret (v := .tuple #[.slice A2 l.length c2, ((⟨1, 0, 0, false⟩ : An)).v]) (by simp [results, Tryz.results69, go_sem, An.v, r0, r1, r2, r3]) rfl ⟨_, by rw [HP.out], ?_, ?_⟩
   ·rw [HP.out]; exact ((((HO2.out.setCell HLO.out _).setCell HLO.out _).setCell HLO.out _).setCell HLO.out _).more HK10.out.size
   ·exact Kp.bel (Kp.setR (by simp) (Kp.setR (by simp) (Kp.setR (by simp) (Kp.setR (by simp) (HK10.out.trans HK2.out)))))
 ·have hd0 : doA l kind key val = ([], ⟨mapRight l, 0, 0, false⟩) := by rw [doA, if_neg h0]
  have hb0 : (mapRight l != 0) = true := by simp [h0]
  have HP := hide hd0
  clear h0 hd0
  go_enter Tryz.func69, Tryz.ntmps69
  go_wp2_with fail
  refine (check_any l _ _ ((HR.out.alloc _).alloc _)).mono ?_
  rintro e w1 ⟨rfl, hb1⟩
  have hk1 : Kp W1 w1 := by rw [HW1.out]; exact hb1
  clear hb1
  obtain ⟨o0, o1, o2, r0, r1, r2, r3, f0, f1, f2, f3⟩ := HDB.out.kp hk1
  go_wp2
  refine bodyPost_ret (v := .tuple #[.slice none 0 0, ((⟨mapRight l, 0, 0, false⟩ : An)).v]) (by simp [results, Tryz.results69, go_sem, An.v, r0, r1, r2, r3]) rfl ⟨_, by rw [HP.out], ?_, ?_⟩
  ·rw [HP.out]; exact OW.nil
  ·exact Kp.bel (Kp.setR (by simp) (Kp.setR (by simp) (Kp.setR (by simp) (Kp.setR (by simp) (HK1.out.trans hk1)))))
end Go.Proofs.YtcljlnagpjilaaaGreatDoor
