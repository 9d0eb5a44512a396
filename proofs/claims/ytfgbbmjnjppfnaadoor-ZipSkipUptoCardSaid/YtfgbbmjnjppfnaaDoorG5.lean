/-
  zip.put: what it answers. Conditions: the tree is written as MR says; the table of math/bits holds what it is laid with (DTb).
  copy, append within the capacity, clear, append of zeros: at slices of elements of several cells, in a block that is known whole; slices.overlaps of two blocks. Conditions: those of each law.
  A store into the second cell of a pair of an owned slice. Conditions: none.
  plain.find and what it calls (cmp.Compare, slices.BinarySearchFunc at pairs): what they answer. Conditions: the list reads as l (RD); its keys rise.
  slices.Insert at pairs, one value: what it answers. Conditions: the slice is owned by the caller (OW); the value lies in a block of its own; at most 1000 elements.
-/
import Derived.Test.YtfgbbmjnjppfnaaDoorG4
import Derived.Test.YtfgbbmjnjppfnaaDoorG1
import Derived.Laws.CopyOwn
import Derived.Lib.AppendZerosOnto
import Derived.Lib.Overlaps
import Derived.Lib.SliceRun
import Derived.Test.YtfgbbmjnjppfnaaDoorG3
import Derived.Laws.NewBlocks

namespace Go.Proofs.YtfgbbmjnjppfnaaDoor
open Go.ChangeShapes Go.WideShapes Go.ChangeAt Go.RowKit
set_option linter.unusedVariables false
set_option linter.unusedSimpArgs false

def ZpRel (nt : TypeId) (w : World) (r0 : Addr) (bx : Nat) (T : MT IP) (F : List Nat) (P : IP) (qv : Value) (wr : World) : Prop :=
  ∃ C q t p Fc Ft, qv = .pointer (some q) ∧ At_ wr nt ePair Prod.fst r0 T F P.1 C q t p Fc Ft ∧ (∀ f ∈ C, ov f.a P = true) ∧ BC wr bx nt (nodeC ePair P none none) ∧ r0.block < wr.heap.size ∧ Kp w wr
set_option maxRecDepth 100000 in
set_option maxHeartbeats 8000000 in
theorem zput_any (T : MT IP) (p0 : Option Addr) (F : List Nat) (key : Int) (w : World) (hm : MR w 113 ePair T p0 F) (hdb : DTb w) : Calls Tryd.prog 43 #[.pointer p0, .int .i64 key] w (ZmPost 113 (putM T (key, hgtF key)) F w) := by
  have hFl := hm.lt
  obtain ⟨h, hh⟩ : ∃ h, h = hgtF key := ⟨_, rfl⟩
  have HHG := hide (fun W hd => height_any key W hd)
  rw [← hh] at HHG ⊢
  obtain ⟨r0, hr0⟩ : ∃ r0 : Addr, r0 = ⟨w.heap.size, 0, none⟩ := ⟨_, rfl⟩
  have HR0 := hide hr0
  have HRF : Hid (r0.block ∉ F) := hide (fun h => by have := hFl _ h; rw [hr0] at this; simp at this)
  have HBF : Hid (w.heap.size + 1 ∉ F) := hide (fun h => by have := hFl _ h; omega)
  have kk : Kp w ((w.alloc (.cells #[.pointer p0] 73)).alloc (.cells #[.int .i64 key, .int .i64 h, .pointer none, .pointer none] 113)) := (Kp.refl w).alloc.alloc
  have HS : Hid (At_ ((w.alloc (.cells #[.pointer p0] 73)).alloc (.cells #[.int .i64 key, .int .i64 h, .pointer none, .pointer none] 113)) 113 ePair Prod.fst r0 T F key [] r0 T p0 [] F) := hide (At_.start key (by rw [hr0]; exact ((Kp.refl _).alloc).cell (by simp [go_sem])) (by rw [hr0]; simp [go_sem]) (hm.kp kk))
  have HBX : Hid (BC ((w.alloc (.cells #[.pointer p0] 73)).alloc (.cells #[.int .i64 key, .int .i64 h, .pointer none, .pointer none] 113)) (w.heap.size + 1) 113 (nodeC ePair (key, h) none none)) := hide (by
    have h9 := BC.new (w.alloc (.cells #[.pointer p0] 73)) 113 (nodeC ePair (key, h) none none)
    rw [show (w.alloc (.cells #[.pointer p0] 73)).heap.size = w.heap.size + 1 by simp] at h9
    exact h9)
  have HDB : Hid (DTb (w.alloc (.cells #[.pointer p0] 73))) := hide (hdb.kp (Kp.refl w).alloc)
  have HKK := hide kk
  have hrb : Hid (r0.block = w.heap.size) := hide (by rw [hr0])
  clear hm hFl hdb kk hh
  go_enter Tryd.func43, Tryd.ntmps43
  go_wp2_with fail
  rw [← HR0.out]
  with_reducible refine (HHG.out _ HDB.out).mono ?_
  rintro e w1 ⟨rfl, rfl⟩
  go_wp2
  go_loopw [6] (ZpRel 113 w r0 (w.heap.size + 1) T F (key, h)) (szAt 113 ePair)
  case atStart => exact ⟨[], r0, T, p0, [], F, by rw [HR0.out], HS.out, (fun f hf => absurd hf (by simp)), HBX.out, by rw [hrb.out]; simp <;> omega, HKK.out⟩
  case round =>
    obtain ⟨C, q, t, p, Fc, Ft, rfl, ha, hov, hbx, hrl, hkp⟩ := hrel
    have HA := hide ha
    have HOVC := hide hov
    have c0 := ha.cell
    have hm := ha.mr
    have HPL : Hid (∀ t', putM t (key, h) = t' → putM T (key, h) = plug C t') := hide (fun t' e => by rw [ha.eq, putM_plug C _ ha.dir hov, e])
    cases p with
    | none =>
      obtain ⟨rfl, rfl⟩ := hm.of_none
      have HMW : Hid (MR wr 113 ePair .nil none []) := hide hm
      have HAW := HA
      have HBW := hide hbx
      have HRW := hide hrl
      have HKW := hide hkp
      have HPM : Hid (putM T (key, h) = plug C (.node (key, h) (unz .nil key).1 (unz .nil key).2)) := hide (HPL.out _ rfl)
      clear hm ha hov hbx hrl hkp
      go_wp2_with fail
      with_reducible refine (unzipped_any (.nil : MT IP) (none : Option Addr) [] key _ HMW.out).mono ?_
      rintro e w3 ⟨pa, pb, Fa, Fb, rfl, ha3, hb3, s1, s2, s3, hk3⟩
      have hbt : w.heap.size + 1 ∉ ([] : List Nat) := fun h => HBF.out (HAW.out.sub _ (.inl h))
      have hbc : w.heap.size + 1 ∉ Fc := fun h => HBF.out (HAW.out.sub _ (.inr h))
      have hrt : r0.block ∉ ([] : List Nat) := fun h => HRF.out (HAW.out.sub _ (.inl h))
      have hrc : r0.block ∉ Fc := fun h => HRF.out (HAW.out.sub _ (.inr h))
      have hrn : r0.block ≠ w.heap.size + 1 := by rw [hrb.out]; omega
      have hb3' : BC w3 (w.heap.size + 1) 113 (nodeC ePair (key, h) none none) := HBW.out.kf hk3 hbt
      have c2 : w3.cell? ⟨w.heap.size + 1, 2, none⟩ = some (.pointer none) := hb3'.link true
      have c3 : w3.cell? ⟨w.heap.size + 1, 3, none⟩ = some (.pointer none) := hb3'.link false
      have f2 := hb3'.frozen 2
      have f3 := hb3'.frozen 3
      have hqt : q.block ∉ ([] : List Nat) := by
        rcases HAW.out.zp.at_ with e | hx
        · rw [e]; exact hrt
        · exact fun h => HAW.out.dis _ h hx
      have hqb : q.block ≠ w.heap.size + 1 := by
        rcases HAW.out.zp.at_ with e | hx
        · rw [e]; exact hrn
        · intro h; rw [h] at hx; exact hbc hx
      have c0q := hk3.cell hqt HAW.out.cell
      have f0q := (hk3.frozen (World.block_lt_of_cell? _ _ HAW.out.cell) hqt).trans HAW.out.fz
      have q1 : ∀ (j : Nat) (u : Value) (X : World), (X.setCell ⟨w.heap.size + 1, j, none⟩ u).cell? q = X.cell? q := fun j u X => World.cell?_setCell_other _ _ _ _ (fun e => hqb (by rw [← e]))
      have hXB : BC ((w3.setCell ⟨w.heap.size + 1, 2, none⟩ (.pointer pa)).setCell ⟨w.heap.size + 1, 3, none⟩ (.pointer pb)) (w.heap.size + 1) 113 (nodeC ePair (key, h) pa pb) := (hb3'.set (j := 2)).set (j := 3)
      have hba : w.heap.size + 1 ∉ Fa := fun h => hbt (s1 _ h)
      have hbb : w.heap.size + 1 ∉ Fb := fun h => hbt (s2 _ h)
      have hXM := MR.mk hXB hba hbb s3 ((ha3.set (q := ⟨w.heap.size + 1, 2, none⟩) (u := .pointer pa) hba).set (q := ⟨w.heap.size + 1, 3, none⟩) (u := .pointer pb) hba) ((hb3.set (q := ⟨w.heap.size + 1, 2, none⟩) (u := .pointer pa) hbb).set (q := ⟨w.heap.size + 1, 3, none⟩) (u := .pointer pb) hbb)
      have hXK : Kf (fun i => i ∈ ([] : List Nat) ∨ i = w.heap.size + 1) wr ((w3.setCell ⟨w.heap.size + 1, 2, none⟩ (.pointer pa)).setCell ⟨w.heap.size + 1, 3, none⟩ (.pointer pb)) := ((hk3.mono (fun i _ h => .inl h)).set (.inl (.inr rfl))).set (.inl (.inr rfl))
      have hsubF : ∀ x ∈ (w.heap.size + 1) :: (Fa ++ Fb), x ∈ ([] : List Nat) ∨ x = w.heap.size + 1 := fun x hx => by
        simp only [List.mem_cons, List.mem_append] at hx
        rcases hx with h | h | h
        · exact .inr h
        · exact .inl (s1 x h)
        · exact .inl (s2 x h)
      obtain ⟨p1, F1, z1, z2, z3, z4⟩ := HAW.out.putG HRF.out HRW.out hXK (fun i hi h => h.elim (fun h => HAW.out.dis i h hi) (fun h => hbc (by rw [← h]; exact hi))) (fun h => h.elim hrt hrn) hXM (fun x hx hx' => (hsubF x hx).elim (fun h => HAW.out.dis x h hx') (fun h => hbc (by rw [← h]; exact hx'))) (fun hx => (hsubF _ hx).elim hrt hrn)
      have HZ2 := hide z2
      have HZ3 := hide z3
      have HZ4 := hide z4
      have HSF := hide hsubF
      rw [HR0.out] at z1
      clear hbt hbc hrt hrc hrn hb3' hqt hqb hXB hba hbb hXM hXK hsubF z2 z3 z4 ha3 hb3 s1 s2 s3 hk3
      go_wp2
      refine bodyPost_ret (v := .pointer p1) (by simp [results, Tryd.results43, go_sem]) rfl ⟨p1, F1, rfl, by rw [HPM.out]; exact HZ2.out, fun x hx => ?_, ?_⟩
      · rcases HZ3.out x hx with h | h
        · rcases HSF.out x h with h | h
          · exact .inl (HAW.out.sub x (.inl h))
          · exact .inr (by omega)
        · exact .inl (HAW.out.sub x (.inr h))
      · exact (Kf.of (F := fun i => i ∈ F) HKW.out).trans HZ4.out (fun i hi h => by
          rcases h with (h | h) | h | h
          · exact HAW.out.sub i (.inl h)
          · omega
          · rw [hrb.out] at h; omega
          · exact HAW.out.sub i (.inr h))
    | some ad =>
      obtain ⟨a, l, r, b, pl, pr, Fl, Fr, rfl, rfl, rfl, hb, g1, g2, g3, hl, hr⟩ := hm.of_some
      have x0 : wr.cell? ⟨b, 0, none⟩ = some (.int .i64 a.1) := hb.cell 0
      have x1 : wr.cell? ⟨b, 1, none⟩ = some (.int .i64 a.2) := hb.cell 1
      have HOV := hide (over_any b (w.heap.size + 1) a (key, h) wr x0 x1 (hbx.cell 0) (hbx.cell 1))
      have HMS := hide (szAt_eq c0 hm)
      have HB := hide hb
      have HL := hide hl
      have HR := hide hr
      have HD := hide (fun W (hk : Kp wr W) => (ha.kpZ hk hrl).down (hb.kp hk) g1 g2 g3 (hl.kp hk) (hr.kp hk))
      have HBX := hide hbx
      have HRL := hide hrl
      have HKP := hide hkp
      have HM := hide hm
      have hrw : ∀ W, Kp wr W → r0.block < W.heap.size := fun W hk => Nat.lt_of_lt_of_le hrl hk.size
      have HRWW := hide hrw
      clear hb hl hr g1 g2 g3 ha hbx hrl hkp hm hrw
      cases hov2 : ov a (key, h) with
      | true =>
        rw [hov2] at HOV
        have HOC2 : Hid (∀ f ∈ (⟨a, true, r⟩ :: C : List (Fm IP)), ov f.a (key, h) = true) := hide (fun f hf => by rcases List.mem_cons.1 hf with rfl | hf; exact hov2; exact hov f hf)
        have HOC3 : Hid (∀ f ∈ (⟨a, false, l⟩ :: C : List (Fm IP)), ov f.a (key, h) = true) := hide (fun f hf => by rcases List.mem_cons.1 hf with rfl | hf; exact hov2; exact hov f hf)
        clear hov
        go_wp2_with fail
        with_reducible refine HOV.out.mono ?_
        rintro e w2 ⟨rfl, hb2⟩
        have kk2 : Kp wr w2 := Kp.of hb2
        have x0' := kk2.cell x0
        have c0' := kk2.cell c0
        clear hb2 x0 x1 c0
        have HKW := hide (HKP.out.trans kk2)
        have HAW := hide (HA.out.kpZ kk2 HRL.out)
        rcases Int.lt_trichotomy key a.1 with hk | hk | hk
        · have d1 : (key == a.1) = false := by simp; omega
          have HN := hide ((HD.out _ kk2).1 hk)
          have HML := hide (szAt_eq ((HB.out.kp kk2).link true) (HL.out.kp kk2))
          go_wp2
          go_roundw
          case rel => exact ⟨_, _, _, _, _, _, rfl, HN.out, HOC2.out, HBX.out.kp kk2, HRWW.out _ kk2, HKW.out⟩
          case measure => exact Nat.lt_of_lt_of_le (Nat.lt_of_le_of_lt (Nat.le_of_eq HML.out) (by simp only [MT.size]; omega)) (Nat.le_of_eq HMS.out.symm)
        · have d1 : (key == a.1) = true := by simp [hk]
          have HPM : Hid (putM T (key, h) = plug C (.node a l r)) := hide (HPL.out _ (by rw [putM, if_pos hov2, if_pos hk]))
          clear hk
          obtain ⟨p1, F1, z1, z2, z3⟩ := HAW.out.zp.close HAW.out.cell HAW.out.mr HAW.out.dis
          have HZ2 := hide z2
          have HZ3 := hide z3
          rw [HR0.out] at z1
          clear z2 z3
          go_wp2
          exact bodyPost_ret (v := .pointer p1) (by simp [results, Tryd.results43, go_sem]) rfl ⟨p1, F1, rfl, by rw [HPM.out]; exact HZ2.out, fun x hx => .inl (HAW.out.sub x ((HZ3.out x).1 hx)), Kf.of HKW.out⟩
        · have d1 : (key == a.1) = false := by simp; omega
          have d2 : decide (key < a.1) = false := by simp; omega
          have HN := hide ((HD.out _ kk2).2 hk)
          have HMR := hide (szAt_eq ((HB.out.kp kk2).link false) (HR.out.kp kk2))
          go_wp2
          go_roundw
          case rel => exact ⟨_, _, _, _, _, _, rfl, HN.out, HOC3.out, HBX.out.kp kk2, HRWW.out _ kk2, HKW.out⟩
          case measure => exact Nat.lt_of_lt_of_le (Nat.lt_of_le_of_lt (Nat.le_of_eq HMR.out) (by simp only [MT.size]; omega)) (Nat.le_of_eq HMS.out.symm)
      | false =>
        rw [hov2] at HOV
        clear hov
        go_wp2_with fail
        with_reducible refine HOV.out.mono ?_
        rintro e w2 ⟨rfl, hb2⟩
        have kk2 : Kp wr w2 := Kp.of hb2
        have x0' := kk2.cell x0
        have c0' := kk2.cell c0
        clear hb2 x0 x1 c0
        have HKW := hide (HKP.out.trans kk2)
        have HAW := hide (HA.out.kpZ kk2 HRL.out)
        by_cases hk : a.1 = key
        · have d1 : (a.1 == key) = true := by simp [hk]
          have HPM : Hid (putM T (key, h) = plug C (.node a l r)) := hide (HPL.out _ (by rw [putM, if_neg (by simp [hov2]), if_pos hk]))
          clear hk
          obtain ⟨p1, F1, z1, z2, z3⟩ := HAW.out.zp.close HAW.out.cell HAW.out.mr HAW.out.dis
          have HZ2 := hide z2
          have HZ3 := hide z3
          rw [HR0.out] at z1
          clear z2 z3
          go_wp2
          exact bodyPost_ret (v := .pointer p1) (by simp [results, Tryd.results43, go_sem]) rfl ⟨p1, F1, rfl, by rw [HPM.out]; exact HZ2.out, fun x hx => .inl (HAW.out.sub x ((HZ3.out x).1 hx)), Kf.of HKW.out⟩
        · have d1 : (a.1 == key) = false := by simpa using hk
          have HPM : Hid (putM T (key, h) = plug C (.node (key, h) (unz (.node a l r) key).1 (unz (.node a l r) key).2)) := hide (HPL.out _ (by rw [putM, if_neg (by simp [hov2]), if_neg hk]))
          have HMW := hide (HM.out.kp kk2)
          have HBW := hide (HBX.out.kp kk2)
          have HRW := hide (HRWW.out _ kk2)
          clear hk
          go_wp2_with fail
          with_reducible refine (unzipped_any (.node a l r : MT IP) (some ⟨b, 0, none⟩ : Option Addr) (b :: (Fl ++ Fr)) key _ HMW.out).mono ?_
          rintro e w3 ⟨pa, pb, Fa, Fb, rfl, ha3, hb3, s1, s2, s3, hk3⟩
          have hbt : w.heap.size + 1 ∉ ((b :: (Fl ++ Fr)) : List Nat) := fun h => HBF.out (HAW.out.sub _ (.inl h))
          have hbc : w.heap.size + 1 ∉ Fc := fun h => HBF.out (HAW.out.sub _ (.inr h))
          have hrt : r0.block ∉ ((b :: (Fl ++ Fr)) : List Nat) := fun h => HRF.out (HAW.out.sub _ (.inl h))
          have hrc : r0.block ∉ Fc := fun h => HRF.out (HAW.out.sub _ (.inr h))
          have hrn : r0.block ≠ w.heap.size + 1 := by rw [hrb.out]; omega
          have hb3' : BC w3 (w.heap.size + 1) 113 (nodeC ePair (key, h) none none) := HBW.out.kf hk3 hbt
          have c2 : w3.cell? ⟨w.heap.size + 1, 2, none⟩ = some (.pointer none) := hb3'.link true
          have c3 : w3.cell? ⟨w.heap.size + 1, 3, none⟩ = some (.pointer none) := hb3'.link false
          have f2 := hb3'.frozen 2
          have f3 := hb3'.frozen 3
          have hqt : q.block ∉ ((b :: (Fl ++ Fr)) : List Nat) := by
            rcases HAW.out.zp.at_ with e | hx
            · rw [e]; exact hrt
            · exact fun h => HAW.out.dis _ h hx
          have hqb : q.block ≠ w.heap.size + 1 := by
            rcases HAW.out.zp.at_ with e | hx
            · rw [e]; exact hrn
            · intro h; rw [h] at hx; exact hbc hx
          have c0q := hk3.cell hqt HAW.out.cell
          have f0q := (hk3.frozen (World.block_lt_of_cell? _ _ HAW.out.cell) hqt).trans HAW.out.fz
          have q1 : ∀ (j : Nat) (u : Value) (X : World), (X.setCell ⟨w.heap.size + 1, j, none⟩ u).cell? q = X.cell? q := fun j u X => World.cell?_setCell_other _ _ _ _ (fun e => hqb (by rw [← e]))
          have hXB : BC ((w3.setCell ⟨w.heap.size + 1, 2, none⟩ (.pointer pa)).setCell ⟨w.heap.size + 1, 3, none⟩ (.pointer pb)) (w.heap.size + 1) 113 (nodeC ePair (key, h) pa pb) := (hb3'.set (j := 2)).set (j := 3)
          have hba : w.heap.size + 1 ∉ Fa := fun h => hbt (s1 _ h)
          have hbb : w.heap.size + 1 ∉ Fb := fun h => hbt (s2 _ h)
          have hXM := MR.mk hXB hba hbb s3 ((ha3.set (q := ⟨w.heap.size + 1, 2, none⟩) (u := .pointer pa) hba).set (q := ⟨w.heap.size + 1, 3, none⟩) (u := .pointer pb) hba) ((hb3.set (q := ⟨w.heap.size + 1, 2, none⟩) (u := .pointer pa) hbb).set (q := ⟨w.heap.size + 1, 3, none⟩) (u := .pointer pb) hbb)
          have hXK : Kf (fun i => i ∈ ((b :: (Fl ++ Fr)) : List Nat) ∨ i = w.heap.size + 1) w2 ((w3.setCell ⟨w.heap.size + 1, 2, none⟩ (.pointer pa)).setCell ⟨w.heap.size + 1, 3, none⟩ (.pointer pb)) := ((hk3.mono (fun i _ h => .inl h)).set (.inl (.inr rfl))).set (.inl (.inr rfl))
          have hsubF : ∀ x ∈ (w.heap.size + 1) :: (Fa ++ Fb), x ∈ ((b :: (Fl ++ Fr)) : List Nat) ∨ x = w.heap.size + 1 := fun x hx => by
            simp only [List.mem_cons, List.mem_append] at hx
            rcases hx with h | h | h
            · exact .inr h
            · exact .inl (s1 x h)
            · exact .inl (s2 x h)
          obtain ⟨p1, F1, z1, z2, z3, z4⟩ := HAW.out.putG HRF.out HRW.out hXK (fun i hi h => h.elim (fun h => HAW.out.dis i h hi) (fun h => hbc (by rw [← h]; exact hi))) (fun h => h.elim hrt hrn) hXM (fun x hx hx' => (hsubF x hx).elim (fun h => HAW.out.dis x h hx') (fun h => hbc (by rw [← h]; exact hx'))) (fun hx => (hsubF _ hx).elim hrt hrn)
          have HZ2 := hide z2
          have HZ3 := hide z3
          have HZ4 := hide z4
          have HSF := hide hsubF
          rw [HR0.out] at z1
          clear hbt hbc hrt hrc hrn hb3' hqt hqb hXB hba hbb hXM hXK hsubF z2 z3 z4 ha3 hb3 s1 s2 s3 hk3
          go_wp2
          refine bodyPost_ret (v := .pointer p1) (by simp [results, Tryd.results43, go_sem]) rfl ⟨p1, F1, rfl, by rw [HPM.out]; exact HZ2.out, fun x hx => ?_, ?_⟩
          · rcases HZ3.out x hx with h | h
            · rcases HSF.out x h with h | h
              · exact .inl (HAW.out.sub x (.inl h))
              · exact .inr (by omega)
            · exact .inl (HAW.out.sub x (.inr h))
          · exact (Kf.of (F := fun i => i ∈ F) HKW.out).trans HZ4.out (fun i hi h => by
              rcases h with (h | h) | h | h
              · exact HAW.out.sub i (.inl h)
              · omega
              · rw [hrb.out] at h; omega
              · exact HAW.out.sub i (.inr h))
end Go.Proofs.YtfgbbmjnjppfnaaDoor
namespace Go.Proofs.YtfgbbmjnjppfnaaDoor
open Go.ChangeShapes Go.WideShapes Go.ChangeAt Go.RowKit
set_option linter.unusedVariables false
set_option linter.unusedSimpArgs false

/-- The block g is just these cells. -/
def BK (w : World) (g : Nat) (t : TypeId) (cur : List Value) : Prop := w.heap[g]? = some (.cells cur.toArray t (0, 0))
section
variable {P : Program} {w w' : World} {g : Nat} {t : TypeId} {cur cs : List Value}
theorem BK.lt (h : BK w g t cur) : g < w.heap.size := (Array.getElem?_eq_some_iff.1 h).1
theorem BK.kp (h : BK w g t cur) (hk : Kp w w') : BK w' g t cur := (hk.bel.block g h.lt).trans h
theorem BK.kg {b : Nat} (h : BK w g t cur) (hn : g ≠ b) (hk : Kg b w w') : BK w' g t cur := (hk.block h.lt hn).trans h
theorem BK.cell (h : BK w g t cur) (j : Nat) : w.cell? ⟨g, j, none⟩ = cur[j]? := by
  rw [cell_of_row w g j _ t (0, 0) h]; simp
theorem Kg.setRow (w : World) (g : Nat) (cs : Array Value) : Kg g w (w.setRow g cs) := ⟨rfl, rfl, rfl, by simp, fun k hk hn => setRow_other w g k cs (fun e => hn (by rw [e]))⟩
theorem BK.setRow (h : BK w g t cur) (cs : List Value) : BK (w.setRow g cs.toArray) g t cs := setRow_heap w g _ _ t _ h
theorem BK.of_ow {α : Type} {B : Nat} {E : Enc α} {e : TypeId} {n c : Nat} {l : List α} (h : OW w B e E (.slice (some ⟨g, 0, none⟩) n c) l) : ∃ cur : List Value, BK w g e cur ∧ B ≤ g ∧ n ≤ c ∧ c ≤ maxLen ∧ cur.length = c * E.size ∧ cur.take (n * E.size) = l.flatMap E.cells ∧ n = l.length := by
  obtain ⟨h1, h2⟩ := h
  have hn : n = l.length := by
    rcases h2 with ⟨h2, _⟩ | ⟨g', cap, cur, hv, _⟩
    · cases h2
    · injection hv
  rcases h2 with ⟨h2, _⟩ | ⟨g', cap, cur, hv, hb, hg, h3, h4, h5, h6⟩
  · cases h2
  · injection hv with e1 e2 e3
    injection e1 with e1
    injection e1 with e1 _
    subst e1 e3
    refine ⟨cur.toList, ?_, hb, by omega, h4, by simpa using h5, by rw [hn]; simpa using h6, hn⟩
    unfold BK
    simpa using hg
theorem BK.ow {α : Type} {B : Nat} {E : Enc α} {e : TypeId} {c : Nat} {l : List α} (h : BK w g e cur) (hB : B ≤ g) (hn : l.length ≤ c) (hc : c ≤ maxLen) (hl : cur.length = c * E.size) (ht : cur.take (l.length * E.size) = l.flatMap E.cells) :
    OW w B e E (.slice (some ⟨g, 0, none⟩) l.length c) l :=
  ⟨flat_len E l, .inr ⟨g, c, cur.toArray, rfl, hB, h, hn, hc, by simpa using hl, by simpa using ht⟩⟩

theorem splice_len (L : List Value) (off : Nat) (cs : List Value) (h : off + cs.length ≤ L.length) : (splice L off cs).length = L.length := length_splice L off cs h
theorem splice_at {α : Type} (L : List α) (off : Nat) (cs : List α) (h : off + cs.length ≤ L.length) (j : Nat) : (splice L off cs)[j]? = if j < off then L[j]? else if j < off + cs.length then cs[j - off]? else L[j]? := by
  unfold splice
  by_cases h1 : j < off
  · rw [if_pos h1, List.getElem?_append_left (by simp; omega), List.getElem?_take, if_pos h1]
  · rw [if_neg h1, List.getElem?_append_right (by simp; omega)]
    have e : (L.take off).length = off := by simp; omega
    rw [e]
    by_cases h2 : j < off + cs.length
    · rw [if_pos h2, List.getElem?_append_left (by omega)]
    · rw [if_neg h2, List.getElem?_append_right (by omega), List.getElem?_drop]
      congr 1; omega

theorem run_storeRow (hg : BK w g t cur) (o : Nat) (hfit : o + cs.length ≤ cur.length) (h1 : ∀ v ∈ cs, v.oneCell' = true) : (storeCells ⟨g, o, none⟩ cs).run P w = .ok () (w.setRow g (splice cur o cs).toArray) := by
  have h := run_storeCells_at P g o t cs 0 cur.toArray w hg (by simpa using hfit) h1
  rw [h]
  simp [splice]
theorem add_lit (b o j : Nat) : (⟨b, o, none⟩ : Addr).add j = ⟨b, o + j, none⟩ := by unfold Addr.add; split <;> simp_all
theorem run_copyK {dT sT ty elem : TypeId} {i0 : TypeInfo} (hi : P.info? elem = some i0) (hu : P.underlying dT = some (.slice elem)) (o dLen dCap : Nat) (a : Addr) (sLen sCap : Nat) (hg : BK w g t cur)
    (hn : cs.length = Nat.min sLen dLen * i0.size) (hsrc : ∀ j v, cs[j]? = some v → w.cell? (a.add j) = some v) (hfit : o + cs.length ≤ cur.length) (h1 : ∀ v ∈ cs, v.oneCell' = true) :
    (Builtin.copy_ #[dT, sT] ty #[.slice (some ⟨g, o, none⟩) dLen dCap, .slice (some a) sLen sCap]).run P w = .ok (goInt (Nat.min sLen dLen)) (w.setRow g (splice cur o cs).toArray) := by
  have hf := run_firstCells_some (P := P) w i0.size (Nat.min sLen dLen) a sLen sCap cs hn hsrc
  have hst := run_storeRow (P := P) hg o hfit h1
  simp [Builtin.copy_, run_underlying hu, Builtin.lenOf, sizeOf, typeInfo, hi, hf, hst]
theorem run_appendK {tt tx ty elem : TypeId} {i0 : TypeInfo} (hi : P.info? elem = some i0) (hu : P.underlying tt = some (.slice elem)) (hx : P.underlying tx = some (.slice elem)) (n c : Nat) (a : Addr) (m sCap : Nat) (hg : BK w g t cur)
    (hn : cs.length = m * i0.size) (hroom : n + m ≤ c) (hsrc : ∀ j v, cs[j]? = some v → w.cell? (a.add j) = some v) (hfit : n * i0.size + cs.length ≤ cur.length) (h1 : ∀ v ∈ cs, v.oneCell' = true) :
    (Builtin.append_ #[tt, tx] ty #[.slice (some ⟨g, 0, none⟩) n c, .slice (some a) m sCap]).run P w = .ok (.slice (some ⟨g, 0, none⟩) (n + m) c) (w.setRow g (splice cur (n * i0.size) cs).toArray) := by
  have hs : Src P i0.size tx (.slice (some a) m sCap) m cs w := Src.ofSlice w hx a m sCap cs hn hsrc h1
  have h := run_append_room_src (P := P) w tt tx ty elem i0 hu hi g 0 n c (.slice (some a) m sCap) m cs hs hroom (fun j hj => by
    rw [Nat.zero_add, hg.cell, List.getElem?_eq_getElem (by omega)]; rfl) (fun j hj => by
    unfold BK at hg
    simp [World.frozen?, hg])
  rw [h]
  have h2 := run_storeRow (P := P) hg (n * i0.size) hfit h1
  have h3 := run_storeCells_cells (P := P) g (n * i0.size) cs 0 w (fun j hj => by rw [Nat.add_zero, hg.cell, List.getElem?_eq_getElem (by omega)]; rfl) (fun j hj => by
    unfold BK at hg
    simp [World.frozen?, hg]) h1
  rw [h2] at h3
  injection h3 with _ h3
  rw [h3]
  simp
theorem run_clearK {tt ty elem : TypeId} {i0 : TypeInfo} {z : Value} (hi : P.info? elem = some i0) (hz : i0.zero = some z) (hu : P.underlying tt = some (.slice elem)) (o n c : Nat) (hn : 0 < n) (hg : BK w g t cur)
    (hzs : z.cells.size = i0.size) (hfit : o + n * i0.size ≤ cur.length) (h1 : ∀ v ∈ (Builtin.zeroCells z.cells n).toList, v.oneCell' = true) :
    (Builtin.clear_ #[tt] ty #[.slice (some ⟨g, o, none⟩) n c]).run P w = .ok (.tuple #[]) (w.setRow g (splice cur o (Builtin.zeroCells z.cells n).toList).toArray) := by
  have hl : (Builtin.zeroCells z.cells n).toList.length = n * i0.size := by rw [Array.length_toList, size_zeroCells, hzs]
  have hst := run_storeRow (P := P) hg o (cs := (Builtin.zeroCells z.cells n).toList) (by rw [hl]; exact hfit) h1
  cases n with
  | zero => omega
  | succ n => simp [Builtin.clear_, run_underlying hu, zeroValue, typeInfo, hi, hz, hst]
end
section
variable {P : Program} {w : World} {ops : Array Oper} {rest : List Oper} {o : Oper} {a : Act} {Q : Exit → Act → World → Prop} {K : Act → World → Prop} {F : Prop}
/-- A copy whose run is known, at a plain region and at a step of one that draws: the world behind it is a letter. -/
theorem list_copy (hgd : o.guard = none) (d x : Operand) {dT sT : TypeId} (ho : o.op = .call { callee := .builtin .copy, args := #[d, x], argTypes := #[dT, sT] }) (v u : Value) (hd : a.eval d = v) (hx : a.eval x = u) {n : Nat} {g : Nat} {t : TypeId} {cur : List Value}
    (hg : BK w g t cur) {cs' : List Value} (hr : ∀ ty, (Builtin.copy_ #[dT, sT] ty #[v, u]).run P w = .ok (goInt n) (w.setRow g cs'.toArray))
    (h : ∀ w', Hid (BK w' g t cs') → Kg g w w' → wpList P ops Q rest (a.put o.dst (goInt n)) w') : wpList P ops Q (o :: rest) a w := by
  refine wpList_plain hgd fun K hK => ?_
  unfold Oper.wp execOp
  simp only [ho, resolve, invoke, builtin, Sem.run_bind, Sem.run_pure, Result.andThen_ok, List.map_toArray, List.map_cons, List.map_nil, hd, hx, hr]
  exact hK _ _ (h _ (hg.setRow cs') (Kg.setRow _ _ _))
theorem step_copy (hgd : o.guard = none) (d x : Operand) {dT sT : TypeId} (ho : o.op = .call { callee := .builtin .copy, args := #[d, x], argTypes := #[dT, sT] }) (v u : Value) (hd : a.eval d = v) (hx : a.eval x = u) {n : Nat} {g : Nat} {t : TypeId} {cur : List Value}
    (hg : BK w g t cur) {cs' : List Value} (hr : ∀ ty, (Builtin.copy_ #[dT, sT] ty #[v, u]).run P w = .ok (goInt n) (w.setRow g cs'.toArray))
    (h : ∀ w', Hid (BK w' g t cs') → Kg g w w' → K (a.put o.dst (goInt n)) w') : if Region.wanted o (yielded ops a.tmps) = true then Oper.wp P o a w K Q else F := by
  have hw : Region.wanted o (yielded ops a.tmps) = true := by simp [Region.wanted, hgd]
  rw [if_pos hw]
  unfold Oper.wp execOp
  simp only [ho, resolve, invoke, builtin, Sem.run_bind, Sem.run_pure, Result.andThen_ok, List.map_toArray, List.map_cons, List.map_nil, hd, hx, hr]
  exact h _ (hg.setRow cs') (Kg.setRow _ _ _)
/-- An append whose run is known to stay in its block. -/
theorem step_appK (hgd : o.guard = none) (d x : Operand) {dT sT : TypeId} (ho : o.op = .call { callee := .builtin .append, args := #[d, x], argTypes := #[dT, sT] }) (v u r : Value) (hd : a.eval d = v) (hx : a.eval x = u) {g : Nat} {t : TypeId} {cur : List Value}
    (hg : BK w g t cur) {cs' : List Value} (hr : ∀ ty, (Builtin.append_ #[dT, sT] ty #[v, u]).run P w = .ok r (w.setRow g cs'.toArray))
    (h : ∀ w', Hid (BK w' g t cs') → Kg g w w' → K (a.put o.dst r) w') : if Region.wanted o (yielded ops a.tmps) = true then Oper.wp P o a w K Q else F := by
  have hw : Region.wanted o (yielded ops a.tmps) = true := by simp [Region.wanted, hgd]
  rw [if_pos hw]
  unfold Oper.wp execOp
  simp only [ho, resolve, invoke, builtin, Sem.run_bind, Sem.run_pure, Result.andThen_ok, List.map_toArray, List.map_cons, List.map_nil, hd, hx, hr]
  exact h _ (hg.setRow cs') (Kg.setRow _ _ _)
theorem list_clear (hgd : o.guard = none) (d : Operand) {dT : TypeId} (ho : o.op = .call { callee := .builtin .clear, args := #[d], argTypes := #[dT] }) (v : Value) (hd : a.eval d = v) {g : Nat} {t : TypeId} {cur : List Value}
    (hg : BK w g t cur) {cs' : List Value} (hr : ∀ ty, (Builtin.clear_ #[dT] ty #[v]).run P w = .ok (.tuple #[]) (w.setRow g cs'.toArray))
    (h : ∀ w', Hid (BK w' g t cs') → Kg g w w' → wpList P ops Q rest (a.put o.dst (.tuple #[])) w') : wpList P ops Q (o :: rest) a w := by
  refine wpList_plain hgd fun K hK => ?_
  unfold Oper.wp execOp
  simp only [ho, resolve, invoke, builtin, Sem.run_bind, Sem.run_pure, Result.andThen_ok, List.map_toArray, List.map_cons, List.map_nil, hd, hr]
  exact hK _ _ (h _ (hg.setRow cs') (Kg.setRow _ _ _))
end
end Go.Proofs.YtfgbbmjnjppfnaaDoor
namespace Go.Proofs.YtfgbbmjnjppfnaaDoor
open Go.ChangeShapes Go.WideShapes Go.ChangeAt Go.RowKit
set_option linter.unusedVariables false
set_option linter.unusedSimpArgs false

theorem OW.setVal {w : World} {B : Nat} {e : TypeId} {g n c : Nat} {l : List IP} (h : OW w B e ePair (.slice (some ⟨g, 0, none⟩) n c) l) (k : Nat) (hk : k < l.length) (x : Int) :
    OW (w.setCell ⟨g, k * 2 + 1, none⟩ (.int .i64 x)) B e ePair (.slice (some ⟨g, 0, none⟩) n c) (l.set k (l[k].1, x)) := by
  obtain ⟨cur, hbk, hB, hnc, hcm, hcl, htk, hn⟩ := BK.of_ow h
  have hes : ePair.size = 2 := rfl
  rw [hes] at hcl htk
  have hn' : n = (l.set k (l[k].1, x)).length := by simp [hn]
  have hb2 : BK (w.setCell ⟨g, k * 2 + 1, none⟩ (.int .i64 x)) g e (cur.set (k * 2 + 1) (.int .i64 x)) := by
    unfold BK at hbk ⊢
    simp only [World.setCell, Array.getElem?_modify, hbk]
    simp
  rw [hn']
  refine BK.ow (E := ePair) hb2 hB (by omega) hcm (by rw [List.length_set, hcl, hes]) ?_
  have hf := flat_set_pair (l[k].1, x) l k
  rw [← hf, hes, List.take_set]
  simp only [List.length_set]
  rw [← hn, htk]
  congr 1
  symm
  apply List.ext_getElem?
  intro j
  by_cases hj : j = k * 2
  · subst hj
    have h1 := flat_at ePair l k hk 0 (by decide)
    rw [hes, Nat.add_zero] at h1
    rw [List.getElem?_set_self (by rw [flat_len, hes]; omega), h1]
    rfl
  · rw [List.getElem?_set_ne (by omega)]

theorem OW.cellPair {w : World} {B : Nat} {e : TypeId} {g n c : Nat} {l : List IP} (h : OW w B e ePair (.slice (some ⟨g, 0, none⟩) n c) l) (k : Nat) (hk : k < l.length) :
    w.cell? ⟨g, k * 2 + 1, none⟩ = some (.int .i64 l[k].2) ∧ w.frozen? ⟨g, k * 2 + 1, none⟩ = false := by
  obtain ⟨cur, hbk, _, _, _, _, _, hn⟩ := BK.of_ow h
  subst hn
  obtain ⟨b, o, e1, _, _, c1⟩ := h.rd.pair hk
  injection e1 with e1
  injection e1 with e2 e3
  subst e2 e3
  refine ⟨by rwa [Nat.zero_add] at c1, ?_⟩
  unfold BK at hbk
  simp [World.frozen?, hbk]

end Go.Proofs.YtfgbbmjnjppfnaaDoor
namespace Go.Proofs.YtfgbbmjnjppfnaaDoor
open Go.ChangeShapes Go.WideShapes Go.ChangeAt Go.RowKit
set_option linter.unusedVariables false
set_option linter.unusedSimpArgs false

theorem isNaN_any (n : Int) (w : World) : Calls Tryd.prog 87 #[.int .i64 n] w fun e w' => e = .returned (.bool false) ∧ w = w' := by
  have h : (n != n) = false := by simp
  go_enter Tryd.func87, Tryd.ntmps87
  go_wp2
  go_ret
  exact ⟨rfl, rfl⟩
def cmp3 (a b : Int) : Int := if a < b then -1 else if b < a then 1 else 0
theorem compare_any (a b : Int) (w : World) : Calls Tryd.prog 85 #[.int .i64 a, .int .i64 b] w fun e w' => e = .returned (.int .i64 (cmp3 a b)) ∧ w = w' := by
  rcases Int.lt_trichotomy a b with h | h | h
  · have hc : Hid (cmp3 a b = -1) := hide (by rw [cmp3, if_pos h])
    have h1 : decide (a < b) = true := by simp [h]
    clear h
    go_enter Tryd.func85, Tryd.ntmps85
    go_wp2_with (go_at_call 87; refine (isNaN_any _ _).mono ?_; rintro e w' ⟨rfl, rfl⟩)
    go_ret
    exact ⟨by rw [hc.out]; rfl, rfl⟩
  · have hc : Hid (cmp3 a b = 0) := hide (by rw [cmp3, if_neg (by omega), if_neg (by omega)])
    have h1 : decide (a < b) = false := by simp; omega
    have h2 : decide (b < a) = false := by simp; omega
    clear h
    go_enter Tryd.func85, Tryd.ntmps85
    go_wp2_with (go_at_call 87; refine (isNaN_any _ _).mono ?_; rintro e w' ⟨rfl, rfl⟩)
    go_ret
    exact ⟨by rw [hc.out]; rfl, rfl⟩
  · have hc : Hid (cmp3 a b = 1) := hide (by rw [cmp3, if_neg (by omega), if_pos h])
    have h1 : decide (a < b) = false := by simp; omega
    have h2 : decide (b < a) = true := by simp; omega
    clear h
    go_enter Tryd.func85, Tryd.ntmps85
    go_wp2_with (go_at_call 87; refine (isNaN_any _ _).mono ?_; rintro e w' ⟨rfl, rfl⟩)
    go_ret
    exact ⟨by rw [hc.out]; rfl, rfl⟩
theorem cmp3_neg (a b : Int) : decide (cmp3 a b < 0) = decide (a < b) := by
  unfold cmp3; split <;> (try split) <;> simp <;> omega
theorem cmp3_zero (a b : Int) : (cmp3 a b == 0) = (a == b) := by
  unfold cmp3; split <;> (try split) <;> simp <;> omega
theorem find1_any (a1 a2 k : Int) (w : World) : Calls Tryd.prog 84 #[.agg #[.int .i64 a1, .int .i64 a2], .int .i64 k] w (Ret (.int .i64 (cmp3 a1 k)) w) := by
  go_enter Tryd.func84, Tryd.ntmps84
  go_wp2_with (go_at_call 85; refine (compare_any _ _ _).mono ?_; rintro e w' ⟨rfl, rfl⟩)
  go_ret
  exact ⟨rfl, (Kp.refl w).alloc.bel⟩

/-- So many keys are less. -/
def below (l : List IP) (k : Int) : Nat := (l.filter fun p => decide (p.1 < k)).length
def hasKey (l : List IP) (k : Int) : Bool := l.any fun p => p.1 == k
def Rise (l : List IP) : Prop := ∀ i j (hi : i < l.length) (hj : j < l.length), i < j → l[i].1 < l[j].1
theorem Rise.tail {p : IP} {l : List IP} (h : Rise (p :: l)) : Rise l := fun i j hi hj hij => h (i + 1) (j + 1) (by simp; omega) (by simp; omega) (by omega)
theorem below_le (l : List IP) (k : Int) : below l k ≤ l.length := List.length_filter_le _ _
/-- In a list that rises: those ahead of the place are less, those from it on are not. -/
theorem below_cut : ∀ (l : List IP), Rise l → ∀ k i (hi : i < l.length), (i < below l k ↔ l[i].1 < k)
  | [], _, _, i, hi => by simp at hi
  | p :: t, h, k, i, hi => by
    have hz : ∀ j (hj : j < t.length), p.1 < t[j].1 := fun j hj => h 0 (j + 1) (by simp) (by simpa using hj) (by omega)
    by_cases hp : p.1 < k
    · have e : below (p :: t) k = below t k + 1 := by simp [below, List.filter_cons, hp]
      rw [e]
      cases i with
      | zero => simp [hp]
      | succ i =>
        simp only [List.getElem_cons_succ, Nat.add_lt_add_iff_right]
        exact below_cut t h.tail k i (by simpa using hi)
    · have e : below (p :: t) k = 0 := by
        have : ∀ x ∈ t, ¬ x.1 < k := fun x hx => by
          obtain ⟨j, hj, rfl⟩ := List.getElem_of_mem hx
          have := hz j hj; omega
        simp only [below, List.length_eq_zero_iff, List.filter_eq_nil_iff, decide_eq_true_eq, List.mem_cons]
        rintro x (rfl | hx)
        · exact hp
        · exact this x hx
      rw [e]
      cases i with
      | zero => simp [hp]
      | succ i =>
        simp only [List.getElem_cons_succ]
        have := hz i (by simpa using hi)
        omega
theorem hasKey_iff (l : List IP) (h : Rise l) (k : Int) : hasKey l k = true ↔ ∃ h : below l k < l.length, (l[below l k]'h).1 = k := by
  simp only [hasKey, List.any_eq_true, beq_iff_eq]
  constructor
  · rintro ⟨x, hx, hk⟩
    obtain ⟨j, hj, rfl⟩ := List.getElem_of_mem hx
    have h1 := (below_cut l h k j hj)
    have hb : below l k ≤ j := by omega
    have hlt : below l k < l.length := by omega
    refine ⟨hlt, ?_⟩
    have h2 := below_cut l h k (below l k) hlt
    rcases Nat.lt_or_ge (below l k) j with h3 | h3
    · have := h _ _ hlt hj h3; omega
    · have e : below l k = j := by omega
      simp only [e]; exact hk
  · rintro ⟨hlt, hk⟩
    exact ⟨_, List.getElem_mem hlt, hk⟩

def FRel (l : List IP) (k : Int) (w : World) (iv jv : Value) (wr : World) : Prop :=
  ∃ i j : Nat, i ≤ j ∧ j ≤ l.length ∧ iv = .int .i64 i ∧ jv = .int .i64 j ∧ i ≤ below l k ∧ below l k ≤ j ∧ Kp w wr

theorem half_up (i j : Nat) (hj : i + j ≤ 1000000) : IntKind.i64.wrap (IntKind.u64.wrap ((i : Int) + (j : Int)) / 2) = (((i + j) / 2 : Nat) : Int) := by
  have h1 : IntKind.u64.wrap ((i : Int) + (j : Int)) = (i : Int) + (j : Int) := by
    simp [IntKind.wrap, IntKind.bits, IntKind.signed]; omega
  rw [h1, IntWalk.i64_in _ (by omega)]
  omega

set_option maxRecDepth 100000 in
set_option maxHeartbeats 1000000 in
theorem bsf_any (l : List IP) (v : Value) (k : Int) (w : World) (hr : RD w ePair v l) (hn : l.length ≤ 1000) (hs : Rise l) :
    Calls Tryd.prog 83 #[v, .int .i64 k, .func (.func 84) #[] #[]] w (Ret (.tuple #[.int .i64 (below l k : Nat), .bool (hasKey l k)]) w) := by
  obtain ⟨A, c, rfl, hc, hm⟩ := hr.shape
  have HR := hide hr
  have HS := hide hs
  have hble := below_le l k
  clear hr hs
  go_enter Tryd.func83, Tryd.ntmps83
  go_wp2
  go_loopw [9, 10] (FRel l k w) (fun i j _ => (intOf j - intOf i).toNat)
  case atStart => exact ⟨0, l.length, by omega, by omega, rfl, rfl, by omega, hble, Kp.refl _⟩
  case round =>
    obtain ⟨i, j, hij, hj, rfl, rfl, hi2, hj2, hkp⟩ := hrel
    by_cases hlt : i < j
    · have hml : (i + j) / 2 < l.length := by omega
      obtain ⟨b, o, rfl, _, c0, c1⟩ := (HR.out.kp hkp).pair hml
      have hcut := below_cut l HS.out k ((i + j) / 2) hml
      have hcn := cmp3_neg l[(i + j) / 2].1 k
      have b1 : ((i : Int) + (j : Int)) / 2 < (l.length : Int) := by omega
      by_cases hd : l[(i + j) / 2].1 < k
      · have hd1 : decide (cmp3 l[(i + j) / 2].1 k < 0) = true := by rw [hcn]; simp [hd]
        have hb : (i + j) / 2 < below l k := hcut.2 hd
        clear hcut hcn hd
        go_wp2_with (go_at_call 84; refine (find1_any _ _ _ _).mono ?_; rintro e w1 ⟨rfl, hb1⟩)
        go_roundw
        case rel => exact ⟨(i + j) / 2 + 1, j, by omega, hj, by go_num, rfl, by omega, hj2, hkp.trans hb1⟩
        case measure => simp [intOf]; omega
      · have hd1 : decide (cmp3 l[(i + j) / 2].1 k < 0) = false := by rw [hcn]; simp; omega
        have hb : below l k ≤ (i + j) / 2 := by omega
        clear hcut hcn hd
        go_wp2_with (go_at_call 84; refine (find1_any _ _ _ _).mono ?_; rintro e w1 ⟨rfl, hb1⟩)
        go_roundw
        case rel => exact ⟨i, (i + j) / 2, by omega, by omega, rfl, by go_num, by omega, by omega, hkp.trans hb1⟩
        case measure => simp [intOf]; omega
    · have hib : Hid (i = below l k) := hide (by omega)
      by_cases hin : i < l.length
      · obtain ⟨b, o, rfl, _, c0, c1⟩ := (HR.out.kp hkp).pair hin
        have hcz := cmp3_zero l[i].1 k
        have hhk : Hid (hasKey l k = (l[i].1 == k)) := hide (by
          rw [Bool.eq_iff_iff, hasKey_iff l HS.out k, beq_iff_eq, ← hib.out]
          exact ⟨fun ⟨_, h⟩ => h, fun h => ⟨hin, h⟩⟩)
        have hd : decide ((i : Int) < (l.length : Int)) = true := by simp [hin]
        have hd' : decide (i < l.length) = true := by simp [hin]
        have HCZ := hide hcz
        clear hcz
        go_wp2_with (go_at_call 84; refine (find1_any _ _ _ _).mono ?_; rintro e w1 ⟨rfl, hb1⟩)
        go_ret2
        exact ⟨by rw [hhk.out, ← HCZ.out, ← hib.out]; rfl, (hkp.trans hb1).bel⟩
      · have hhk : Hid (hasKey l k = false) := hide (by
          rw [Bool.eq_false_iff]
          intro h
          obtain ⟨h1, _⟩ := (hasKey_iff l HS.out k).1 h
          omega)
        have hd' : decide (i < l.length) = false := by simp [hin]
        go_wp2
        go_ret2
        exact ⟨by rw [hhk.out, ← hib.out]; rfl, hkp.bel⟩

theorem find_any (l : List IP) (v : Value) (k : Int) (w : World) (hr : RD w ePair v l) (hn : l.length ≤ 1000) (hs : Rise l) :
    Calls Tryd.prog 77 #[v, .int .i64 k] w (Ret (.tuple #[.int .i64 (below l k : Nat), .bool (hasKey l k)]) w) := by
  have HC := hide (fun w h => bsf_any l v k w h hn hs)
  have HR := hide hr
  clear hr hs
  go_enter Tryd.func77, Tryd.ntmps77
  go_wp2_with fail
  refine (HC.out _ HR.out).mono ?_
  rintro e w1 ⟨rfl, hb1⟩
  go_wp2
  go_ret2
  exact ⟨rfl, hb1⟩
end Go.Proofs.YtfgbbmjnjppfnaaDoor
namespace Go.Proofs.YtfgbbmjnjppfnaaDoor
open Go.ChangeShapes Go.WideShapes Go.ChangeAt Go.RowKit
set_option linter.unusedVariables false
set_option linter.unusedSimpArgs false

/-- What a call leaves that answers a slice made of one that its caller owned. -/
def OPost (B : Nat) (t : TypeId) (l : List IP) (v : Value) (w : World) (e : Ending) (w' : World) : Prop :=
  ∃ v', e = .returned v' ∧ OW w' B t ePair v' l ∧ w.grownBy w' v.ownBlock ∧ (v'.ownBlock = v.ownBlock ∨ ∃ k, v'.ownBlock = some k ∧ w.heap.size ≤ k)
theorem OPost.kp {w0 w w' : World} {v : Value} (hg : w.grownBy w' v.ownBlock) (h : Kp w0 w) (hv : Hi w0.heap.size v) : Kp w0 w' := Kp.app hg h hv
theorem flat_take {α : Type} (E : Enc α) (l : List α) (k : Nat) (h : k ≤ l.length) : (l.flatMap E.cells).take (k * E.size) = (l.take k).flatMap E.cells := by
  have e : l.flatMap E.cells = (l.take k).flatMap E.cells ++ (l.drop k).flatMap E.cells := by rw [← List.flatMap_append, List.take_append_drop]
  rw [e, List.take_left']
  rw [flat_len]; simp [h]
theorem flat_drop {α : Type} (E : Enc α) (l : List α) (k : Nat) (h : k ≤ l.length) : (l.flatMap E.cells).drop (k * E.size) = (l.drop k).flatMap E.cells := by
  have e : l.flatMap E.cells = (l.take k).flatMap E.cells ++ (l.drop k).flatMap E.cells := by rw [← List.flatMap_append, List.take_append_drop]
  rw [e, List.drop_left']
  rw [flat_len]; simp [h]
/-- Cells of a part of a list. -/
theorem cells_drop {w : World} {g : Nat} {t : TypeId} {cur : List Value} {α : Type} {E : Enc α} {l : List α} (hg : BK w g t cur) (ht : cur.take (l.length * E.size) = l.flatMap E.cells) (k : Nat) (hk : k ≤ l.length) :
    ∀ j v, ((l.drop k).flatMap E.cells)[j]? = some v → w.cell? ⟨g, k * E.size + j, none⟩ = some v := fun j v hj => by
  rw [hg.cell, ← hj, ← flat_drop E l k hk, ← ht, List.getElem?_drop, List.getElem?_take, if_pos]
  have h1 := (List.getElem?_eq_some_iff.1 hj).1
  rw [flat_len, List.length_drop] at h1
  have h2 : (l.length - k) * E.size = l.length * E.size - k * E.size := Nat.sub_mul _ _ _
  have h3 : k * E.size ≤ l.length * E.size := Nat.mul_le_mul_right _ hk
  omega

/-- In place: all from i on is moved by one, the new one laid. -/
theorem insert_take (cur : List Value) (l : List IP) (x : IP) (i c : Nat) (hi : i < l.length) (hc : l.length + 1 ≤ c) (hl : cur.length = c * 2) (ht : cur.take (l.length * 2) = l.flatMap ePair.cells) :
    (splice (splice cur ((i + 1) * 2) ((l.drop i).flatMap ePair.cells)) (i * 2) (ePair.cells x)).take ((l.take i ++ [x] ++ l.drop i).length * 2) = (l.take i ++ [x] ++ l.drop i).flatMap ePair.cells := by
  have hdl : ((l.drop i).flatMap ePair.cells).length = (l.length - i) * 2 := by rw [flat_len, List.length_drop]; rfl
  have hxl : (ePair.cells x).length = 2 := rfl
  have hll : (l.take i ++ [x] ++ l.drop i).length = l.length + 1 := by simp; omega
  have hs1 := splice_len cur ((i + 1) * 2) ((l.drop i).flatMap ePair.cells) (by omega)
  have hft : (l.take i).flatMap ePair.cells = cur.take (i * 2) := by
    have h1 := flat_take ePair l i (by omega)
    have h2 : ePair.size = 2 := rfl
    rw [h2] at h1
    rw [← h1, ← ht, List.take_take, Nat.min_eq_left (by omega)]
  rw [hll]
  apply List.ext_getElem?
  intro j
  rw [List.getElem?_take]
  by_cases hj : j < (l.length + 1) * 2
  · rw [if_pos hj, splice_at _ _ _ (by omega)]
    simp only [List.flatMap_append, List.flatMap_cons, List.flatMap_nil, List.append_nil, List.append_assoc]
    rw [hft]
    have htl : (cur.take (i * 2)).length = i * 2 := by simp; omega
    by_cases h1 : j < i * 2
    · rw [if_pos h1, splice_at _ _ _ (by omega), if_pos (by omega), List.getElem?_append_left (by omega), List.getElem?_take, if_pos h1]
    · rw [if_neg h1, List.getElem?_append_right (by omega), htl]
      by_cases h2 : j < i * 2 + (ePair.cells x).length
      · rw [if_pos h2, List.getElem?_append_left (by omega)]
      · rw [if_neg h2, splice_at _ _ _ (by omega), if_neg (by omega), if_pos (by omega), List.getElem?_append_right (by omega), hxl]
        congr 1; omega
  · rw [if_neg hj, List.getElem?_eq_none]
    rw [flat_len, hll]
    exact Nat.le_of_not_lt hj
/-- In a new block: what stood ahead, the new one, what stood from i on. -/
theorem insert_new (cur Z : List Value) (l : List IP) (x : IP) (i c G : Nat) (hi : i < l.length) (hG : l.length + 1 ≤ G) (hZ : i * 2 + Z.length = G * 2) :
    (splice (splice ((l.take i).flatMap ePair.cells ++ Z) (i * 2) (ePair.cells x)) ((i + 1) * 2) ((l.drop i).flatMap ePair.cells)).take ((l.take i ++ [x] ++ l.drop i).length * 2) = (l.take i ++ [x] ++ l.drop i).flatMap ePair.cells := by
  have hdl : ((l.drop i).flatMap ePair.cells).length = (l.length - i) * 2 := by rw [flat_len, List.length_drop]; rfl
  have hxl : (ePair.cells x).length = 2 := rfl
  have hll : (l.take i ++ [x] ++ l.drop i).length = l.length + 1 := by simp; omega
  have htl : ((l.take i).flatMap ePair.cells).length = i * 2 := by rw [flat_len, List.length_take, Nat.min_eq_left (by omega)]; rfl
  have hcl : ((l.take i).flatMap ePair.cells ++ Z).length = G * 2 := by rw [List.length_append]; omega
  have hs1 := splice_len ((l.take i).flatMap ePair.cells ++ Z) (i * 2) (ePair.cells x) (by omega)
  rw [hll]
  apply List.ext_getElem?
  intro j
  rw [List.getElem?_take]
  by_cases hj : j < (l.length + 1) * 2
  · rw [if_pos hj, splice_at _ _ _ (by omega)]
    simp only [List.flatMap_append, List.flatMap_cons, List.flatMap_nil, List.append_nil, List.append_assoc]
    by_cases h1 : j < (i + 1) * 2
    · rw [if_pos h1, splice_at _ _ _ (by omega)]
      by_cases h2 : j < i * 2
      · rw [if_pos h2, List.getElem?_append_left (by omega), List.getElem?_append_left (by omega)]
      · rw [if_neg h2, if_pos (by omega), List.getElem?_append_right (by omega), List.getElem?_append_left (by omega), htl]
    · rw [if_neg h1, if_pos (by omega), List.getElem?_append_right (by omega), List.getElem?_append_right (by omega)]
      congr 1; omega
  · rw [if_neg hj, List.getElem?_eq_none]
    rw [flat_len, hll]
    exact Nat.le_of_not_lt hj

set_option maxRecDepth 100000 in
theorem grow_zeros (l : List IP) (i g c : Nat) (w : World) {cur : List Value} (hbk : BK w g 62 cur) (htk : cur.take (l.length * 2) = l.flatMap ePair.cells) (hi : i < l.length) (hc : l.length ≤ c) (hroom : c < l.length + 1) (hn : l.length ≤ 1000) :
    ∃ (G : Nat) (C Z : List Value), l.length + 1 ≤ G ∧ G ≤ maxLen ∧ i * 2 + Z.length = G * 2 ∧ C = (l.take i).flatMap ePair.cells ++ Z ∧ ∀ ty, (Builtin.append_ #[41, 3] ty #[.slice (some ⟨g, 0, none⟩) i c, .int .i64 ((l.length : Int) + 1 - (i : Int))]).run Tryd.prog w =
      .ok (.slice (some ⟨w.heap.size, 0, none⟩) (l.length + 1) G) (w.drew.alloc (.cells C.toArray 62)) := by
  obtain ⟨i0, z0, hu, hinfo, hzero, hsize, hbytes, hzs, _⟩ := row_pair
  have hes : ePair.size = 2 := rfl
  rw [hes] at hsize hzs
  have hft := flat_take ePair l i (by omega)
  rw [hes] at hft
  have hold : (Builtin.firstCells i0.size i (.slice (some ⟨g, 0, none⟩) i c)).run Tryd.prog w.drew = .ok ((l.take i).flatMap ePair.cells).toArray w.drew := by
    rw [hsize]
    refine run_firstCells_some w.drew 2 i ⟨g, 0, none⟩ i c _ (by rw [flat_len, List.length_take, Nat.min_eq_left (by omega)]; rfl) fun j v hj => ?_
    rw [add_lit, Nat.zero_add]
    show w.cell? _ = _
    have h1 := (List.getElem?_eq_some_iff.1 hj).1
    rw [flat_len, List.length_take, Nat.min_eq_left (by omega), hes] at h1
    rw [hbk.cell, ← hj, ← hft, ← htk, List.getElem?_take, if_pos h1, List.getElem?_take, if_pos (by omega)]
  have hkk : (l.length : Int) + 1 - (i : Int) = ((l.length + 1 - i : Nat) : Int) := by omega
  have hik : i + (l.length + 1 - i) = l.length + 1 := by omega
  have hG := grownCap_ge w (l.length + 1) c 62
  have hG2 := grownCap_le_maxLen w (l.length + 1) c 62 (by unfold maxLen; omega)
  refine ⟨grownCap w (l.length + 1) c 62, _, (Builtin.zeroCells z0.cells (l.length + 1 - i)).toList ++ (Builtin.zeroCells z0.cells (grownCap w (l.length + 1) c 62 - (l.length + 1))).toList, hG, hG2, ?_, rfl, fun ty => ?_⟩
  · simp only [List.length_append, Array.length_toList, size_zeroCells, hzs]; omega
  · have h := Lib.run_append_grow_zeros w 41 3 ty 62 i0 z0 .i64 .i64 hu Tryd.underlying3 hinfo hzero (some ⟨g, 0, none⟩) i c _ hold (l.length + 1 - i) (by omega) (by omega) (by omega) (by omega) (by rw [hbytes]; omega) (by rw [hbytes, hik]; exact growslice_fits hroom (by omega))
    rw [hik] at h
    rw [hkk, h]
    congr 3
    simp

set_option maxRecDepth 100000 in
set_option maxHeartbeats 4000000 in
theorem insertPair_any (l : List IP) (x : IP) (i : Nat) (v : Value) (h B : Nat) (w : World) (ho : OW w B 62 ePair v l) (hx : AR w h 62 ePair [x]) (hne : v.ownBlock ≠ some h) (hi : i ≤ l.length) (hn : l.length ≤ 1000) (hB : B ≤ w.heap.size) :
    Calls Tryd.prog 86 #[v, .int .i64 (i : Int), .slice (some ⟨h, 0, none⟩) 1 1] w (OPost B 62 (l.take i ++ [x] ++ l.drop i) v w) := by
  have HX := hide hx
  have hz1 : ¬ ((1 : Int) = 0) := by omega
  by_cases hin : i = l.length
  · -- at the end
    subst hin
    have hl' : Hid (l.take l.length ++ [x] ++ l.drop l.length = l ++ [x]) := hide (by simp)
    have HO := hide ho
    have HM1 : Hid ((l.length + [x].length) * 16 ≤ 140737488355328) := hide (by simp; omega)
    have HM2 : Hid (l.length + [x].length ≤ maxLen) := hide (by simp [maxLen]; omega)
    have HB := hide hB
    have HRX := hide (hx.rd (by simp [maxLen]))
    obtain ⟨A, c, rfl, hc, hm, hA, _⟩ := ho.rd
    have hm' : c ≤ 9223372036854775807 := by unfold maxLen at hm; omega
    clear ho hx hB hne hm
    cases A with
    | none =>
      have hc0 : c = 0 := hA rfl
      have hl0 : l = [] := List.eq_nil_of_length_eq_zero (by omega)
      subst hl0
      subst hc0
      clear hA
      simp only [List.length_nil] at HO ⊢
      go_enter Tryd.func86, Tryd.ntmps86
      go_wp2_with (at_builtin; (with_reducible refine list_app (B := B) (l := ([] : List IP)) (m := [x]) row_pair (.slice none 0 0) ?_ (.tmp 23) (.tmp 24) ?_ ?_ ?_ ?_ HM1.out HM2.out ?_ ?_); (with_reducible rfl); (with_reducible rfl); rfl; (exact HO.out); (show RD _ _ (.slice (some ⟨h, 0, none⟩) 1 1) _; exact HRX.out); (exact HB.out); intro v3 w3 ho3 hg3 hat3)
      go_ret
      exact ⟨_, rfl, ho3, hg3, hat3.imp id (fun h => ⟨_, h, Nat.le_refl _⟩)⟩
    | some a =>
      obtain ⟨ab, ao, asp⟩ := a
      obtain ⟨A2, hif⟩ : ∃ A2, (if c = l.length then some (⟨ab, ao, asp⟩ : Addr) else some ((⟨ab, ao, asp⟩ : Addr).add (l.length * 2))) = A2 := ⟨_, rfl⟩
      clear hA
      go_enter Tryd.func86, Tryd.ntmps86
      go_wp2_with (at_builtin; (with_reducible refine list_app (B := B) (l := l) (m := [x]) row_pair (.slice (some ⟨ab, ao, asp⟩) l.length c) ?_ (.tmp 23) (.tmp 24) ?_ ?_ ?_ ?_ HM1.out HM2.out ?_ ?_); (with_reducible rfl); (with_reducible rfl); rfl; (exact HO.out); (show RD _ _ (.slice (some ⟨h, 0, none⟩) 1 1) _; exact HRX.out); (exact HB.out); intro v3 w3 ho3 hg3 hat3)
      all_goals
        go_ret
        exact ⟨_, rfl, by rw [hl'.out]; exact ho3, hg3, hat3.imp id (fun h => ⟨_, h, Nat.le_refl _⟩)⟩
  · have hlt : i < l.length := by omega
    obtain ⟨g, c, rfl, hBg, hgw, hc, hc63⟩ := ho.shape (by omega)
    obtain ⟨cur, hbk, _, _, hcm, hcl, htk, _⟩ := BK.of_ow ho
    have hes : ePair.size = 2 := rfl
    rw [hes] at hcl htk
    have hgh : h ≠ g := fun e => hne (by rw [e]; rfl)
    obtain ⟨i0, z0, hu, hinfo, hzero, hsize, hbytes, hzs, _⟩ := row_pair
    rw [hes] at hsize hzs
    have hxs : ∀ j v, (ePair.cells x)[j]? = some v → w.cell? ((⟨h, 0, none⟩ : Addr).add j) = some v := fun j v hj => by
      rw [add_lit, Nat.zero_add]
      have h1 : j < 2 := (List.getElem?_eq_some_iff.1 hj).1
      have := hx.cell 0 (by simp) j h1
      rw [Nat.zero_mul, Nat.zero_add] at this
      rw [this, ← hj]
      rfl
    have h1x : ∀ v ∈ ePair.cells x, v.oneCell' = true := ePair.one x
    have h1d : ∀ v ∈ (l.drop i).flatMap ePair.cells, v.oneCell' = true := flat_one ePair _
    have hdl : ((l.drop i).flatMap ePair.cells).length = (l.length - i) * 2 := by rw [flat_len, List.length_drop]; rfl
    have hwn : IntKind.i64.wrap ((l.length : Int) + 1) = (l.length : Int) + 1 := IntWalk.i64_in _ (by omega)
    have hwi : IntKind.i64.wrap ((i : Int) + 1) = (i : Int) + 1 := IntWalk.i64_in _ (by omega)
    have tni : ((i : Int) + 1).toNat = i + 1 := by omega
    have tnn : ((l.length : Int) + 1).toNat = l.length + 1 := by omega
    have hnei : ¬ ((i : Int) = (l.length : Int)) := by omega
    have hnei' : ((i : Int) == (l.length : Int)) = false := by simp; omega
    have hci : ¬ (c = i) := by omega
    have bi1 : (i : Int) < (l.length : Int) := by omega
    have bi0 : (0 : Int) ≤ (i : Int) + 1 := by omega
    have bn0 : (0 : Int) ≤ (l.length : Int) + 1 := by omega
    have bi2 : (i : Int) ≤ (l.length : Int) + 1 := by omega
    have bi3 : (i : Int) + 1 ≤ (l.length : Int) + 1 := by omega
    by_cases hroom : l.length + 1 ≤ c
    · -- there is room
      have hov : ∀ lb cb, (callFunc 88 #[.slice (some ⟨h, 0, none⟩) 1 1, .slice (some ⟨g, (i + 1) * 2, none⟩) lb cb]).run Tryd.prog w = .ok (.value (.bool false)) w := fun lb cb => by
        rw [run_callFunc_extern Tryd.func88 (by kernel_rfl) (by kernel_rfl) (by kernel_rfl) (e := Extern.SlicesOverlaps.overlaps #[41, 41] #[4]) (by kernel_rfl),
          Lib.run_overlaps_apart w 41 4 62 hu 2 (fun w => by simp [sizeOf, typeInfo, hinfo, hsize]) ⟨h, 0, none⟩ ⟨g, (i + 1) * 2, none⟩ 1 1 lb cb hgh 62 62 2 (c * 2)
            (by have h3 := hx; unfold AR at h3; simp [World.shape?, h3, ePair]) (by have h3 := hbk; unfold BK at h3; simp [World.shape?, h3, hcl]) (by omega) (hx.frozen _) (hx.frozen _)]
        rfl
      have hcp1 : ∀ ty dc sc, (Builtin.copy_ #[41, 41] ty #[.slice (some ⟨g, (i + 1) * 2, none⟩) (l.length - i) dc, .slice (some ⟨g, i * 2, none⟩) (l.length + 1 - i) sc]).run Tryd.prog w.drew =
          .ok (goInt (Nat.min (l.length + 1 - i) (l.length - i))) (w.drew.setRow g (splice cur ((i + 1) * 2) ((l.drop i).flatMap ePair.cells)).toArray) := fun ty dc sc =>
        run_copyK hinfo hu ((i + 1) * 2) _ dc ⟨g, i * 2, none⟩ _ sc (w := w.drew) (t := 62) hbk (by rw [hdl, hsize]; simp only [Nat.min_def]; split <;> omega)
          (fun j v hj => by rw [add_lit]; exact cells_drop (E := ePair) hbk htk i (by omega) j v hj) (by omega) h1d
      obtain ⟨cur1, hcur1⟩ : ∃ cur1, cur1 = splice cur ((i + 1) * 2) ((l.drop i).flatMap ePair.cells) := ⟨_, rfl⟩
      have hcl1 : cur1.length = c * 2 := by rw [hcur1, splice_len _ _ _ (by omega)]; exact hcl
      rw [← hcur1] at hcp1
      have hcp2 : ∀ W, BK W g 62 cur1 → (∀ j v, (ePair.cells x)[j]? = some v → W.cell? ((⟨h, 0, none⟩ : Addr).add j) = some v) → ∀ ty dc, (Builtin.copy_ #[41, 41] ty #[.slice (some ⟨g, i * 2, none⟩) (l.length + 1 - i) dc, .slice (some ⟨h, 0, none⟩) 1 1]).run Tryd.prog W =
          .ok (goInt (Nat.min 1 (l.length + 1 - i))) (W.setRow g (splice cur1 (i * 2) (ePair.cells x)).toArray) := fun W hb hxs ty dc =>
        run_copyK hinfo hu (i * 2) _ dc ⟨h, 0, none⟩ 1 1 hb (by rw [hsize, show Nat.min 1 (l.length + 1 - i) = 1 from by simp only [Nat.min_def]; split <;> omega]; rfl) hxs (by rw [hcl1]; show i * 2 + 2 ≤ _; omega) h1x
      have HBK := hide hbk
      have HFIN := hide (insert_take cur l x i c hlt hroom hcl htk)
      rw [← hcur1] at HFIN
      have HCL1 := hide hcl1
      have HXS := hide hxs
      have HCP1 := hide hcp1
      have HCP2 := hide hcp2
      have HBg := hide hBg
      have HCM := hide hcm
      have HX2 := hide hgh
      have bnr : (l.length : Int) + 1 ≤ (c : Int) := by omega
      have bci : ¬ (c = i + 1) := by omega
      clear hcp1 hcp2 hcur1 hcl1 hbk htk hcl hxs hx hinfo hzero hsize hbytes hzs h1x h1d hdl hB ho hne
      go_enter Tryd.func86, Tryd.ntmps86
      go_wp2_with (simp only [hov])
      go_region_law (refine step_copy rfl (.tmp 73) (.tmp 76) rfl (.slice (some ⟨g, (i + 1) * 2, none⟩) (l.length - i) (c - (i + 1))) (.slice (some ⟨g, i * 2, none⟩) (l.length + 1 - i) (c - i)) (by simp [Act.eval, Act.put]) (by simp [Act.eval, Act.put]) (w := w.drew) HBK.out (fun ty => HCP1.out ty _ _) ?_; intro w2 hb2 hk2)
      have hk2' : Kg g w w2 := (Kg.of (Kp.refl w).drew).trans hk2
      have HXS2 : Hid (∀ j v, (ePair.cells x)[j]? = some v → w2.cell? ((⟨h, 0, none⟩ : Addr).add j) = some v) := hide (fun j v hj => by
        rw [← HXS.out j v hj, add_lit]
        exact World.cell?_of_block (hk2'.block HX.out.lt HX2.out))
      go_wp2_with ((with_reducible refine list_copy ?_ (.tmp 80) (.tmp 81) ?_ (.slice (some ⟨g, i * 2, none⟩) (l.length + 1 - i) (c - i)) (.slice (some ⟨h, 0, none⟩) 1 1) ?_ ?_ hb2.out (fun ty => HCP2.out _ hb2.out HXS2.out ty (c - i)) ?_); (with_reducible rfl); (with_reducible rfl); rfl; rfl; intro w3 hb3 hk3)
      go_ret
      have hll : (l.take i ++ [x] ++ l.drop i).length = l.length + 1 := by simp; omega
      refine ⟨_, rfl, ?_, (show w.grownBy w3 (some g) from hk2'.trans hk3), .inl rfl⟩
      rw [← hll]
      exact BK.ow (E := ePair) hb3.out HBg.out (by omega) HCM.out (by
        have h9 := HCL1.out
        rw [splice_len _ _ _ (by rw [h9]; show i * 2 + 2 ≤ _; omega), h9]; rfl) HFIN.out
    · -- no room: a new block
      obtain ⟨G, C, Z, hG1, hG2, hZ, hC, hrz⟩ := grow_zeros l i g c w hbk htk hlt hc (by omega) hn
      have hG3 : G ≤ 9223372036854775807 := by unfold maxLen at hG2; omega
      have hCl : C.length = G * 2 := by rw [hC, List.length_append, flat_len, List.length_take, Nat.min_eq_left (by omega), hes]; exact hZ
      have HFIN := hide (insert_new cur Z l x i c G hlt hG1 hZ)
      rw [← hC] at HFIN
      have hcpA : ∀ W, BK W w.heap.size 62 C → (∀ j v, (ePair.cells x)[j]? = some v → W.cell? ((⟨h, 0, none⟩ : Addr).add j) = some v) → ∀ ty dc, (Builtin.copy_ #[41, 41] ty #[.slice (some ⟨w.heap.size, i * 2, none⟩) (l.length + 1 - i) dc, .slice (some ⟨h, 0, none⟩) 1 1]).run Tryd.prog W =
          .ok (goInt (Nat.min 1 (l.length + 1 - i))) (W.setRow w.heap.size (splice C (i * 2) (ePair.cells x)).toArray) := fun W hb hxs ty dc =>
        run_copyK hinfo hu (i * 2) _ dc ⟨h, 0, none⟩ 1 1 hb (by rw [hsize, show Nat.min 1 (l.length + 1 - i) = 1 from by simp only [Nat.min_def]; split <;> omega]; rfl) hxs (by rw [hCl]; show i * 2 + 2 ≤ _; omega) h1x
      obtain ⟨C1, hC1⟩ : ∃ C1, C1 = splice C (i * 2) (ePair.cells x) := ⟨_, rfl⟩
      have hC1l : C1.length = G * 2 := by rw [hC1, splice_len _ _ _ (by rw [hCl]; show i * 2 + 2 ≤ _; omega)]; exact hCl
      rw [← hC1] at hcpA HFIN
      have hcpB : ∀ W, BK W w.heap.size 62 C1 → BK W g 62 cur → ∀ ty dc sc, (Builtin.copy_ #[41, 41] ty #[.slice (some ⟨w.heap.size, (i + 1) * 2, none⟩) (l.length - i) dc, .slice (some ⟨g, i * 2, none⟩) (l.length - i) sc]).run Tryd.prog W =
          .ok (goInt (Nat.min (l.length - i) (l.length - i))) (W.setRow w.heap.size (splice C1 ((i + 1) * 2) ((l.drop i).flatMap ePair.cells)).toArray) := fun W hb hbg ty dc sc =>
        run_copyK hinfo hu ((i + 1) * 2) _ dc ⟨g, i * 2, none⟩ _ sc hb (by rw [hdl, hsize]; simp only [Nat.min_def]; split <;> omega)
          (fun j v hj => by rw [add_lit]; exact cells_drop (E := ePair) hbg htk i (by omega) j v hj) (by omega) h1d
      have HBK := hide hbk
      have HXS := hide hxs
      have HCA := hide hcpA
      have HCB := hide hcpB
      have HBg := hide hBg
      have HX2 := hide hgh
      have HG2 := hide hG2
      have HC1L := hide hC1l
      have HB := hide hB
      have HN : Hid (g ≠ w.heap.size) := hide (by omega)
      have HNEW : Hid (BK (w.drew.alloc (.cells C.toArray 62)) w.heap.size 62 C) := hide (heap_alloc_new w.drew _)
      have bnr : (c : Int) < (l.length : Int) + 1 := by omega
      have bG1 : ¬ (G = i) := by omega
      have bG2 : ¬ (G = i + 1) := by omega
      have bG3 : (l.length : Int) + 1 ≤ (G : Int) := by omega
      have bw1 : IntKind.i64.wrap ((l.length : Int) + 1 - (i : Int)) = (l.length : Int) + 1 - (i : Int) := IntWalk.i64_in _ (by omega)
      have K1 : Hid (Kp w (w.drew.alloc (.cells C.toArray 62))) := hide (Kp.refl w).drew.alloc
      obtain ⟨W1, hW1⟩ : ∃ W1, W1 = w.drew.alloc (.cells C.toArray 62) := ⟨_, rfl⟩
      rw [← hW1] at hrz K1 HNEW
      have HXS1 : Hid (∀ j v, (ePair.cells x)[j]? = some v → W1.cell? ((⟨h, 0, none⟩ : Addr).add j) = some v) := hide (fun j v hj => by
        rw [← HXS.out j v hj, add_lit]
        exact World.cell?_of_block (K1.out.bel.block _ HX.out.lt))
      have HBK1 := hide (HBK.out.kp K1.out)
      clear hcpA hcpB hC hC1 hC1l hCl hbk htk hcl hxs hx hinfo hzero hsize hbytes hzs h1x h1d hdl hB ho hne hW1 hroom hgw
      go_enter Tryd.func86, Tryd.ntmps86
      go_wp2_with (first
        | (at_builtin; (with_reducible refine Lib.wpList_append_run _ ?_ (.tmp 34) (.tmp 39) _ _ ?_ (.slice (some ⟨g, 0, none⟩) i c) (.int .i64 ((l.length : Int) + 1 - (i : Int))) ?_ ?_ _ _ (hrz _) ?_); (with_reducible rfl); (with_reducible rfl); rfl; rfl)
        | ((with_reducible refine list_copy ?_ (.tmp 43) (.tmp 44) ?_ (.slice (some ⟨w.heap.size, i * 2, none⟩) (l.length + 1 - i) (G - i)) (.slice (some ⟨h, 0, none⟩) 1 1) ?_ ?_ HNEW.out (fun ty => HCA.out _ HNEW.out HXS1.out ty (G - i)) ?_); (with_reducible rfl); (with_reducible rfl); rfl; rfl; intro w2 hb2 hk2))
      have hbk2 := hide (HBK1.out.kg HN.out hk2)
      go_region_law (refine step_copy rfl (.tmp 50) (.tmp 53) rfl (.slice (some ⟨w.heap.size, (i + 1) * 2, none⟩) (l.length - i) (G - (i + 1))) (.slice (some ⟨g, i * 2, none⟩) (l.length - i) (c - i)) (by simp [Act.eval, Act.put]) (by simp [Act.eval, Act.put]) (w := w2.drew) hb2.out (fun ty => HCB.out w2.drew hb2.out hbk2.out ty _ _) ?_; intro w3 hb3 hk3)
      go_wp2
      go_ret
      have hll : (l.take i ++ [x] ++ l.drop i).length = l.length + 1 := by simp; omega
      have hk23 : Kg w.heap.size W1 w3 := (hk2.trans (Kg.of (Kp.refl w2).drew)).trans hk3
      have hkw : Kp w w3 := hk23.kp K1.out (Nat.le_refl _)
      refine ⟨_, rfl, ?_, (show w.grownBy w3 (some g) from Kg.of hkw), .inr ⟨w.heap.size, rfl, Nat.le_refl _⟩⟩
      rw [← hll]
      exact BK.ow (E := ePair) hb3.out HB.out (by omega) HG2.out (by
        have h9 := HC1L.out
        rw [splice_len _ _ _ (by rw [h9, flat_len, List.length_drop]; show (i + 1) * 2 + (l.length - i) * 2 ≤ _; omega), h9]; rfl) HFIN.out
end Go.Proofs.YtfgbbmjnjppfnaaDoor
