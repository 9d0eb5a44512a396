/-
  skip.stack.put: what it answers and leaves
-/
import Derived.Test.YtcljlnagpjilaaaGreatDoorG9

set_option linter.unusedVariables false
set_option linter.unusedSimpArgs false
set_option maxRecDepth 100000
set_option maxHeartbeats 8000000
namespace Go.Proofs.YtcljlnagpjilaaaGreatDoor
open Go.ChangeShapes Go.WideShapes Go.ChangeAt Go.RowKit
def SkPost (s : Nat) (r : List IP × An) (B : Nat) (w : World) (e : Ending) (w' : World) : Prop := ∃ ts', e = .returned r.2.v /\ SK w' s ts' B /\ pL ts' = r.1 /\ KQ B w w'
def SpRel (s : Nat) (ts : List Tw) (key : Int) (t : Tw) (w : World) (B tb : Nat) (kv : Value) (wr : World) : Prop :=
 ∃ q : Nat, q <= 12 /\ kv = .int .i64 (q : Int) /\ SKF wr (Fq ts (pF ts key 0 + 1) t q) (insT ts (pF ts key 0 + 1) t) B /\
  BC wr s tS [.pointer (some ⟨(tw ts 0).b, 0, none⟩), .int .i64 0, .int .i64 ((ts.length - 1 : Nat) : Int)] /\
  BC wr tb tR (trC ts key 0) /\ BC wr (w.heap.size + 1) 84 [.int .i64 0, .int .i64 0, .int .i64 0, .bool false] /\ KQ B w wr
theorem skPut_any (s : Nat) (ts : List Tw) (key val : Int) (w : World) (B : Nat) (hsk : SK w s ts B) (hdb : DTb w) (hB : B <= w.heap.size) :
  Calls Tryz.prog 158 #[.pointer (some ⟨s, 0, none⟩), .agg #[.int .i64 key, .int .i64 val]] w (SkPost s (putL (pL ts) key val) B w) := by
 obtain ⟨w0, hw0⟩ : ∃ w0, w0 = (w.alloc (.cells #[.int .i64 key, .int .i64 val] 141)).alloc (.cells #[.int .i64 0, .int .i64 0, .int .i64 0, .bool false] 84) := ⟨_, rfl⟩
 have k0 : Kp w w0 := by rw [hw0]; exact (Kp.refl w).alloc.alloc
 have hz0 : w0.heap.size = w.heap.size + 2 := by rw [hw0]; simp
 have hbp : BC w0 w.heap.size 141 [.int .i64 key, .int .i64 val] := by rw [hw0]; exact (BC.new w 141 [.int .i64 key, .int .i64 val]).kp (Kp.refl _).alloc
 have hba : BC w0 (w.heap.size + 1) 84 [.int .i64 0, .int .i64 0, .int .i64 0, .bool false] := by
  rw [hw0]
  have h := BC.new (w.alloc (.cells #[.int .i64 key, .int .i64 val] 141)) 84 [.int .i64 0, .int .i64 0, .int .i64 0, .bool false]
  rwa [show (w.alloc (.cells #[.int .i64 key, .int .i64 val] 141)).heap.size = w.heap.size + 1 by simp] at h
 have HF := hide (find_kp s ts key w0 B (hsk.kp k0))
 have HW0 := hide hw0
 have HK0 := hide k0
 have HBP := hide hbp
 have HBA := hide hba
 have HZ0 := hide hz0
 have HSK := hide hsk
 have HDB := hide hdb
 have hBw := hB
 clear hw0 k0 hbp hba hz0 hsk hdb hB
 go_enter Tryz.func158, Tryz.ntmps158
 go_wp2_with fail
 rw [<- HW0.out]
 with_reducible refine HF.out.mono ?_
 rintro e w1 ⟨rfl, k1⟩
 have IT := info_trail ts key (j := 0)
 have T1 := trC_one ts key 0
 obtain ⟨W, hW⟩ : ∃ W, W = w1.alloc (.cells (trC ts key 0).toArray tR) := ⟨_, rfl⟩
 have kW : Kp w1 W := by rw [hW]; exact (Kp.refl _).alloc
 have htb : BC W w1.heap.size tR (trC ts key 0) := by rw [hW]; exact BC.new _ _ _
 have HKW := hide kW
 have HKW0 := hide ((HK0.out.trans k1).trans kW)
 have HSKW := hide ((HSK.out.kp HK0.out).kp (k1.trans kW))
 have HBPW := hide (HBP.out.kp (k1.trans kW))
 have HBAW := hide (HBA.out.kp (k1.trans kW))
 have HTB := hide htb
 have HWE := hide hW
 have hz1 : w.heap.size + 2 <= w1.heap.size := by have := k1.size; have := HZ0.out; omega
 have HZ1 := hide hz1
 obtain ⟨P0, hP0⟩ : ∃ P0, P0 = pF ts key 0 := ⟨_, rfl⟩
 have HP0 := hide hP0
 have hPl : P0 < ts.length := by rw [hP0]; exact HSKW.out.len_lt
 have a0 : W.cell? ⟨w1.heap.size, 0, none⟩ = some (.pointer (some ⟨(tw ts P0).b, 0, none⟩)) := by rw [htb.cell, hP0]; exact (trC_at ts key 0 (by omega)).1
 have a1 : W.cell? ⟨w1.heap.size, 12, none⟩ = some (.int .i64 (P0 : Nat)) := by rw [htb.cell, hP0]; exact (trC_at ts key 0 (by omega)).2
 have x0 : W.cell? ⟨w.heap.size, 0, none⟩ = some (.int .i64 key) := HBPW.out.cell 0
 have x1 : W.cell? ⟨w.heap.size, 1, none⟩ = some (.int .i64 val) := HBPW.out.cell 1
 have b2 := (HSKW.out.f.tower hPl).2.2
 have g0 := (HSKW.out.h12 hPl).1
 have l0 := (HSKW.out.f.link hPl (HSKW.out.h12 hPl).1).1
 rw [lnk_0 HSKW.out hPl, Nat.zero_mul] at l0
 have m2 : W.cell? ⟨s, 2, none⟩ = some (.int .i64 ((ts.length - 1 : Nat) : Int)) := HSKW.out.stk.cell 2
 have hs2 : ts.length - 1 <= 200 := by have := HSKW.out.len; omega
 have hasI : hasKey (pL ts) key = true ↔ (P0 + 1 < ts.length /\ (tw ts (P0 + 1)).p.1 = key) := by rw [hP0]; exact sk_has HSKW.out
 clear k1 kW htb hW hP0
 by_cases hnx : P0 + 1 < ts.length
 ·rw [if_pos hnx] at l0
  have c2 := (HSKW.out.f.tower hnx).1
  by_cases hke : (tw ts (P0 + 1)).p.1 = key
  ·have hk1 : hasKey (pL ts) key = true := hasI.2 ⟨hnx, hke⟩
   have HPUT : Hid (putL (pL ts) key val = ((pL ts).set P0 (key, val), ⟨0, 0, 0, true⟩)) := hide (by rw [putL, if_pos hk1, <- pF_below HSKW.out, <- HP0.out])
   have d1 : ((tw ts (P0 + 1)).p.1 == key) = true := by simp [hke]
   have HKE := hide hke
   have b3 := (HSKW.out.f.tower hnx).2.1
   have f3 := (HSKW.out.f.tow _ hnx).frozen 1
   have r0 : _ = some (Value.int .i64 0) := (HBAW.out).cell 0
   have r1 : _ = some (Value.int .i64 0) := (HBAW.out).cell 1
   have r2 : _ = some (Value.int .i64 0) := (HBAW.out).cell 2
   have r3 : _ = some (Value.bool false) := (HBAW.out).cell 3
   have q0 := (HBAW.out).frozen 0
   have q1 := (HBAW.out).frozen 1
   have q2 := (HBAW.out).frozen 2
   have q3 := (HBAW.out).frozen 3
   have n1 : ¬ (tw ts (P0 + 1)).b = w.heap.size + 1 := (HSKW.out.f.tow _ hnx).ne HBAW.out (by decide)
   have n2 : ¬ w.heap.size + 1 = (tw ts (P0 + 1)).b := fun e => n1 e.symm
   clear hasI hk1 hke m2
   have hst := tr_store ts key w1 W HWE.out
   go_wp2
   go_quiet (fail)
   go_wp2
   have kd := Kp.drewN (Kp.refl W) (n := nq)
   have HBQ := hide ((HBAW.out.kp kd).far (p := ⟨(tw ts (P0 + 1)).b, 1, none⟩) (u := .int .i64 val) n2)
   refine bodyPost_ret (v := (⟨0, 0, 0, true⟩ : An).v) ?_ ?_ ?_
   ·exact results_cell_row rfl _ _ (w.heap.size + 1) 84 _ (0, 0) _ rfl (ans_bc HBQ.out) Tryz.underlying84 rfl info_ans4
   ·rfl
   refine ⟨setT ts (P0 + 1) val, by rw [HPUT.out], ((HSKW.out.kp kd).setV hnx val).ans4 HBQ.out (by decide) (by decide) (by decide), by rw [HPUT.out, pL_set hnx, HKE.out], KQ.ans4 ((KQ.of (HKW0.out.trans kd)).set (.inl ⟨((HSKW.out.f.own _ hnx).1), (HSKW.out.kp kd).f.tb hnx⟩)) (by omega)⟩
  ·have hk1 : hasKey (pL ts) key = false := by
    cases hh : hasKey (pL ts) key with
    | false => rfl
    | true => exact absurd (hasI.1 hh).2 hke
   have d1 : ((tw ts (P0 + 1)).p.1 == key) = false := by simpa using hke
   have HNO := hide hk1
   clear hasI hk1 hke
   have hst := tr_store ts key w1 W HWE.out
   have r0 : _ = some (Value.int .i64 0) := (HBAW.out).cell 0
   have r1 : _ = some (Value.int .i64 0) := (HBAW.out).cell 1
   have r2 : _ = some (Value.int .i64 0) := (HBAW.out).cell 2
   have r3 : _ = some (Value.bool false) := (HBAW.out).cell 3
   have q0 := (HBAW.out).frozen 0
   have q1 := (HBAW.out).frozen 1
   have q2 := (HBAW.out).frozen 2
   have q3 := (HBAW.out).frozen 3
   obtain ⟨N, hN⟩ : ∃ N, N = ts.length - 1 := ⟨_, rfl⟩
   rw [<- hN] at m2 hs2
   have hlN : ts.length = N + 1 := by omega
   have HNN := hide hlN
   have hB0 : below (pL ts) key = P0 := by rw [HP0.out, pF_below HSKW.out]
   by_cases hfull : N = 200
   ·have HPUT : Hid (putL (pL ts) key val = (pL ts, ⟨2, 0, 0, false⟩)) := hide (by rw [putL, if_neg (by rw [HNO.out]; simp), if_pos (by rw [pL_len]; omega)])
    have hmb : ((N : Int) == 200) = true := by simp [hfull]
    clear hfull hN hlN hB0
    go_wp2
    go_quiet (fail)
    go_wp2
    have kd := Kp.drewN (Kp.refl W) (n := nq)
    have HBQ := hide (HBAW.out.kp kd)
    refine bodyPost_ret (v := (⟨2, 0, 0, false⟩ : An).v) ?_ ?_ ?_
    ·exact results_cell_row rfl _ _ (w.heap.size + 1) 84 _ (0, 0) _ rfl (ans_bc HBQ.out) Tryz.underlying84 rfl info_ans4
    ·rfl
    exact ⟨ts, by rw [HPUT.out], (HSKW.out.kp kd).ans4 HBQ.out (by decide) (by decide) (by decide), by rw [HPUT.out], KQ.ans4 (KQ.of (HKW0.out.trans kd)) (by omega)⟩
   ·have HPUT : Hid (putL (pL ts) key val = ((pL ts).take P0 ++ [(key, val)] ++ (pL ts).drop P0, ⟨0, 0, 0, false⟩)) := hide (by rw [putL, if_neg (by rw [HNO.out]; simp), if_neg (by rw [pL_len]; omega), hB0])
    have hmb : ((N : Int) == 200) = false := by simp; omega
    have hs3 : N <= 199 := by omega
    obtain ⟨h, hh, hh1, hh2⟩ := hgt_nat key
    have HHG := hide (fun W hd => height_any key W hd)
    rw [<- hh] at HHG
    have HHH := hide hh
    obtain ⟨CL, hCL, hmk⟩ := mk_links h hh2
    have HCL := hCL
    obtain ⟨C, hC⟩ : ∃ C, C = P0 + 1 := ⟨_, rfl⟩
    have HC := hide hC
    have s1 : IntKind.i64.wrap ((P0 : Int) + 1) = ((C : Nat) : Int) := by rw [IntWalk.i64_in _ (by omega)]; omega
    have KS : Hid (∀ W', Kp W W' -> W'.cell? ⟨w.heap.size, 0, none⟩ = some (.int .i64 key) /\ W'.cell? ⟨w.heap.size, 1, none⟩ = some (.int .i64 val) /\ W'.cell? ⟨w1.heap.size, 12, none⟩ = some (.int .i64 (P0 : Nat)) /\ Kp W W') := hide (fun W' hk => ⟨hk.cell x0, hk.cell x1, hk.cell a1, hk⟩)
    clear hh hN hlN hB0 hfull hCL hC
    go_wp2
    go_quiet (fail)
    go_wp2_with fail
    with_reducible refine (HHG.out _ ((HDB.out.kp HKW0.out).kp (by (exact Kp.auto)))).mono ?_
    rintro e w2 ⟨rfl, rfl⟩
    go_wp2_with fail
    go_region_held3 (fun w' => w'.cell? ⟨w.heap.size, 0, none⟩ = some (.int .i64 key) /\ w'.cell? ⟨w.heap.size, 1, none⟩ = some (.int .i64 val) /\ w'.cell? ⟨w1.heap.size, 12, none⟩ = some (.int .i64 (P0 : Nat)) /\ Kp W w')
     ((go_split_ands; refine KS.out _ ?_; (exact Kp.auto)))
     (fail)
    go_wp2
    obtain ⟨t, ht⟩ : ∃ t : Tw, t = ⟨W.heap.size + 1, W.heap.size, h, (key, val)⟩ := ⟨_, rfl⟩
    obtain ⟨X, hX⟩ : ∃ X, X = (((W.drewN (nq + 1)).alloc (.cells CL 225)).alloc (.cells #[.int .i64 key, .int .i64 val, .slice (some ⟨W.heap.size, 0, none⟩) h h] 173)) := ⟨_, rfl⟩
    have kX : Kp W X := by rw [hX]; exact (Kp.refl W).drewN.alloc.alloc
    have hbt : BC X t.b tT (twC t) := by
     rw [hX, ht]
     have hh := BC.new ((W.drewN (nq + 1)).alloc (.cells CL 225)) 173 [.int .i64 key, .int .i64 val, .slice (some ⟨W.heap.size, 0, none⟩) h h]
     rwa [show ((W.drewN (nq + 1)).alloc (.cells CL 225)).heap.size = W.heap.size + 1 by simp] at hh
    have hbg : BC X t.g tL (lkC (fun _ => (none, 0)) t.h) := by
     rw [hX, ht]
     have hh := (BC.new (W.drewN (nq + 1)) 225 CL.toList).kp (Kp.refl _).alloc (w' := ((W.drewN (nq + 1)).alloc (.cells CL.toList.toArray 225)).alloc (.cells #[.int .i64 key, .int .i64 val, .slice (some ⟨W.heap.size, 0, none⟩) h h] 173))
     rw [HCL.out] at hh ⊢
     exact hh
    have hPC : P0 + 1 <= ts.length := hPl
    have hsk0 : SKF X (Fq ts (pF ts key 0 + 1) t 0) (insT ts (pF ts key 0 + 1) t) B := by
     rw [<- HP0.out]
     have hB2 : B <= W.heap.size := Nat.le_trans hBw HKW0.out.size
     refine (HSKW.out.f.kp kX).ins hPC hbt hbg (fun i hi => ?_) (fun i hi => ?_) ?_
     ·have := (HSKW.out.f.tow i hi).lt; rw [ht]; simp only; omega
     ·have := (HSKW.out.f.lkb i hi).lt; rw [ht]; simp only; omega
     ·rw [ht]; simp only; omega
    have HREL : Hid (SpRel s ts key t w B w1.heap.size (.int .i64 0) X) := hide ⟨0, by omega, rfl, hsk0, HSKW.out.stk.kp kX, HTB.out.kp kX, HBAW.out.kp kX, KQ.of (HKW0.out.trans kX)⟩
    rw [<- hX]
    have HT := hide ht
    have hzW : w.heap.size <= W.heap.size := HKW0.out.size
    clear hX kX hbt hbg hsk0 a0 a1 x0 x1 b2 l0 m2 r0 r1 r2 r3 q0 q1 q2 q3 ht hmk hst g0 T1 IT
    go_loopw [62] (SpRel s ts key t w B w1.heap.size) (fun i _ => 12 - (intOf i).toNat)
    case atStart => exact HREL.out
    case round =>
     obtain ⟨q, hq, rfl, hskf, hstk, htb, hban, hkq⟩ := hrel
     rw [<- HP0.out] at hskf
     have HSKF := hide hskf
     have HSTK := hide hstk
     have HTBR := hide htb
     have HBAN := hide hban
     have HKQ := hide hkq
     clear hskf hstk htb hban hkq
     by_cases hq12 : q < 12
     ·obtain ⟨p, hp⟩ : ∃ p, p = pF ts key q := ⟨_, rfl⟩
      obtain ⟨_, hpq, _, _⟩ := isP_pF (key := key) HSKW.out hq12
      have hple := pF_le (key := key) HSKW.out hq12
      have hgap := pF_gap (key := key) HSKW.out hq12
      rw [<- hp, <- HP0.out] at hple
      rw [<- hp] at hpq
      rw [<- hp, <- HP0.out] at hgap
      have HGAP := hide hgap
      have hpC : p < P0 + 1 := by omega
      obtain ⟨hot, hol, hne, hoB, hoG⟩ := HSKF.out.at_old hPC hpC
      obtain ⟨hnt, hnl, hnB, hnG⟩ := HSKF.out.at_new hPC
      rw [HT.out] at hnt hnl hne hnB hnG
      simp only at hnt hnl hne hnB hnG
      have HNE := hide hne
      have t0 : wr.cell? ⟨w1.heap.size, q, none⟩ = some (.pointer (some ⟨(tw ts p).b, 0, none⟩)) := by rw [HTBR.out.cell, hp]; exact (trC_at ts key q hq12).1
      have t1 : wr.cell? ⟨w1.heap.size, 12 + q, none⟩ = some (.int .i64 (p : Nat)) := by rw [HTBR.out.cell, hp]; exact (trC_at ts key q hq12).2
      have o2 : wr.cell? ⟨(tw ts p).b, 2, none⟩ = some (.slice (some ⟨(tw ts p).g, 0, none⟩) (tw ts p).h (tw ts p).h) := hot.cell 2
      obtain ⟨hh1, hh2⟩ := lkC_at (Fq ts (P0 + 1) t q p) _ q hpq
      rw [fq_old hpC] at hh1 hh2
      have o3 : wr.cell? ⟨(tw ts p).g, q * 2, none⟩ = _ := (hol.cell (q * 2)).trans hh1
      have o4 : wr.cell? ⟨(tw ts p).g, q * 2 + 1, none⟩ = _ := (hol.cell (q * 2 + 1)).trans hh2
      have u3 := hol.frozen (q * 2)
      have u4 := hol.frozen (q * 2 + 1)
      have hpast := lnk_past (c := P0 + 1) hPC (by omega) hpC hgap
      have hwide := (lnk_wide ts q (i := p) (by omega)).1
      obtain ⟨x, hx⟩ : ∃ x, x = (lnk ts p q).1 := ⟨_, rfl⟩
      obtain ⟨y, hy⟩ : ∃ y, y = (lnk ts p q).2 := ⟨_, rfl⟩
      rw [<- hx] at o3
      rw [<- hy] at o4 hpast hwide
      have HX := hide hx
      have HY := hide hy
      have HP := hide hp
      have HOL := hide hol
      have hCP := HC.out
      have hN2 := HNN.out
      have b1 : (q : Int) < ((tw ts p).h : Int) := by omega
      have b0 : (0 : Int) <= (q : Int) := by omega
      have b12 : (q : Int) < 12 := by omega
      clear hp hx hy hot hol hgap hh1 hh2 hne
      by_cases hqh : q < h
      ·obtain ⟨M, hM⟩ : ∃ M, M = p + y + 1 - C := ⟨_, rfl⟩
       obtain ⟨D, hD⟩ : ∃ D, D = C - p := ⟨_, rfl⟩
       have s2 : IntKind.i64.wrap ((p : Int) + (y : Int)) = (p : Int) + (y : Int) := IntWalk.i64_in _ (by omega)
       have s3 : IntKind.i64.wrap ((p : Int) + (y : Int) + 1) = (p : Int) + (y : Int) + 1 := IntWalk.i64_in _ (by omega)
       have s4 : IntKind.i64.wrap ((p : Int) + (y : Int) + 1 - (C : Int)) = (M : Int) := by rw [IntWalk.i64_in _ (by omega)]; omega
       have s5 : IntKind.i64.wrap ((C : Int) - (p : Int)) = (D : Int) := by rw [IntWalk.i64_in _ (by omega)]; omega
       have d1 : decide (q < h) = true := decide_eq_true hqh
       have bh : (q : Int) < (h : Int) := by omega
       have n2 : wr.cell? ⟨W.heap.size + 1, 2, none⟩ = some (.slice (some ⟨W.heap.size, 0, none⟩) h h) := hnt.cell 2
       obtain ⟨v3, n3⟩ : ∃ v, wr.cell? ⟨W.heap.size, q * 2, none⟩ = some v := ⟨_, (hnl.cell (q * 2)).trans (List.getElem?_eq_getElem (by rw [lkC_len]; omega))⟩
       obtain ⟨v4, n4⟩ : ∃ v, wr.cell? ⟨W.heap.size, q * 2 + 1, none⟩ = some v := ⟨_, (hnl.cell (q * 2 + 1)).trans (List.getElem?_eq_getElem (by rw [lkC_len]; omega))⟩
       have u5 := hnl.frozen (q * 2)
       have u6 := hnl.frozen (q * 2 + 1)
       have e1 : ¬ (tw ts p).g = W.heap.size := HNE.out
       have e2 : ¬ W.heap.size = (tw ts p).g := fun e => HNE.out e.symm
       have e3 : ¬ w1.heap.size = W.heap.size := fun e => by have := HTB.out.lt; omega
       have e4 : ¬ W.heap.size = w1.heap.size := fun e => e3 e.symm
       have HM : Hid (M = p + (lnk ts p q).2 + 1 - (P0 + 1)) := hide (by rw [hM, hCP, HY.out])
       have HD : Hid (D = P0 + 1 - p) := hide (by rw [hD, hCP])
       have HNL := hide hnl
       clear hM hD hCP hN2 hpast hwide hnt hnl
       go_wp2
       go_region_held3 (fun w' => w'.cell? ⟨W.heap.size + 1, 2, none⟩ = some (.slice (some ⟨W.heap.size, 0, none⟩) h h) /\ w'.cell? ⟨(tw ts p).g, q * 2, none⟩ = some (.pointer x) /\ w'.cell? ⟨w1.heap.size, 12 + q, none⟩ = some (.int .i64 (p : Nat)) /\ w'.cell? ⟨(tw ts p).g, q * 2 + 1, none⟩ = some (.int .i64 (y : Nat)))
        (first | go_keep | fail) (fail)
       go_wp2
       have eg : t.g = W.heap.size := by rw [HT.out]
       have eb : t.b = W.heap.size + 1 := by rw [HT.out]
       have h1 := HSKF.out.put_hi hPC (by omega) hpC hpq HGAP.out (by rw [HT.out]; exact hqh) HX.out HM.out HD.out
       rw [eg, eb] at h1
       have a1 : s ≠ W.heap.size := HSTK.out.ne HNL.out (by decide)
       have a2 : s ≠ (tw ts p).g := HSTK.out.ne HOL.out (by decide)
       have a3 : w1.heap.size ≠ (tw ts p).g := HTBR.out.ne HOL.out (by decide)
       have a4 : w.heap.size + 1 ≠ W.heap.size := HBAN.out.ne HNL.out (by decide)
       have a5 : w.heap.size + 1 ≠ (tw ts p).g := HBAN.out.ne HOL.out (by decide)
       have k1 := KQ.set (p := ⟨W.heap.size, q * 2, none⟩) (u := .pointer x) HKQ.out (.inr hzW)
       have k2 := KQ.set (p := ⟨W.heap.size, q * 2 + 1, none⟩) (u := .int .i64 (M : Int)) k1 (.inr hzW)
       have k3 := KQ.set (p := ⟨(tw ts p).g, q * 2, none⟩) (u := .pointer (some ⟨W.heap.size + 1, 0, none⟩)) k2 (.inl ⟨hoG, _, _, .inr (.inl rfl), (HOL.out.far (p := ⟨W.heap.size, q * 2, none⟩) e1).far (p := ⟨W.heap.size, q * 2 + 1, none⟩) e1⟩)
       have k4 := KQ.set (p := ⟨(tw ts p).g, q * 2 + 1, none⟩) (u := .int .i64 (D : Int)) k3 (.inl ⟨hoG, _, _, .inr (.inl rfl), ((HOL.out.far (p := ⟨W.heap.size, q * 2, none⟩) e1).far (p := ⟨W.heap.size, q * 2 + 1, none⟩) e1).set⟩)
       have kd := Kp.drew (Kp.refl ((((wr.setCell ⟨W.heap.size, q * 2, none⟩ (.pointer x)).setCell ⟨W.heap.size, q * 2 + 1, none⟩ (.int .i64 (M : Int))).setCell ⟨(tw ts p).g, q * 2, none⟩ (.pointer (some ⟨W.heap.size + 1, 0, none⟩))).setCell ⟨(tw ts p).g, q * 2 + 1, none⟩ (.int .i64 (D : Int))))
       refine ⟨⟨q + 1, by omega, by go_num, by rw [<- HP0.out]; exact h1.kp kd, (BC.kp ?_ kd), (BC.kp ?_ kd), (BC.kp ?_ kd), k4.on kd⟩, by simp [intOf]; omega⟩
       ·exact (((HSTK.out.far a1).far a1).far a2).far a2
       ·exact (((HTBR.out.far e3).far e3).far a3).far a3
       ·exact (((HBAN.out.far a4).far a4).far a5).far a5
      ·obtain ⟨D, hD⟩ : ∃ D, D = y + 1 := ⟨_, rfl⟩
       have s2 : IntKind.i64.wrap ((y : Int) + 1) = (D : Int) := by rw [IntWalk.i64_in _ (by omega)]; omega
       have d1 : decide (q < h) = false := decide_eq_false hqh
       have HD : Hid (D = (lnk ts p q).2 + 1) := hide (by rw [hD, HY.out])
       clear hD hCP hN2 hpast hwide hnt hnl
       go_wp2
       have h1 := HSKF.out.put_lo hPC (by omega) hpC hpq HGAP.out (by rw [HT.out]; simp only; omega) HD.out
       have a2 : s ≠ (tw ts p).g := HSTK.out.ne HOL.out (by decide)
       have a3 : w1.heap.size ≠ (tw ts p).g := HTBR.out.ne HOL.out (by decide)
       have a5 : w.heap.size + 1 ≠ (tw ts p).g := HBAN.out.ne HOL.out (by decide)
       refine ⟨⟨q + 1, by omega, by go_num, by rw [<- HP0.out]; exact h1, HSTK.out.far a2, HTBR.out.far a3, HBAN.out.far a5, KQ.set (p := ⟨(tw ts p).g, q * 2 + 1, none⟩) (u := .int .i64 (D : Int)) HKQ.out (.inl ⟨hoG, _, _, .inr (.inl rfl), HOL.out⟩)⟩, by simp [intOf]; omega⟩
     ·obtain rfl : q = 12 := by omega
      obtain ⟨N1, hN1⟩ : ∃ N1, N1 = ts.length := ⟨_, rfl⟩
      have HN1 := hide hN1
      have m2 : wr.cell? ⟨s, 2, none⟩ = some (.int .i64 (N : Int)) := by rw [HSTK.out.cell 2, HNN.out]; rfl
      have f2 := HSTK.out.frozen 2
      have s2 : IntKind.i64.wrap ((N : Int) + 1) = (N1 : Int) := by rw [IntWalk.i64_in _ (by omega)]; have := HNN.out; omega
      have n1 : ¬ s = w.heap.size + 1 := HSTK.out.ne HBAN.out (by decide)
      have n2 : ¬ w.heap.size + 1 = s := fun e => n1 e.symm
      have r0 : _ = some (Value.int .i64 0) := (HBAN.out).cell 0
      have r1 : _ = some (Value.int .i64 0) := (HBAN.out).cell 1
      have r2 : _ = some (Value.int .i64 0) := (HBAN.out).cell 2
      have r3 : _ = some (Value.bool false) := (HBAN.out).cell 3
      have q0 := (HBAN.out).frozen 0
      have q1 := (HBAN.out).frozen 1
      have q2 := (HBAN.out).frozen 2
      have q3 := (HBAN.out).frozen 3
      clear hN1
      go_wp2
      have HBQ := hide (HBAN.out.far (p := ⟨s, 2, none⟩) (u := .int .i64 (N1 : Int)) n2)
      have hg := SK.grown HSKW.out (HSKF.out.far (p := ⟨s, 2, none⟩) (u := .int .i64 (N1 : Int)) (fun t' cs hb => (by
       have e : t' = tS := by
        have h1 := HSTK.out
        unfold BC at h1 hb
        rw [h1] at hb
        injection hb with hb
        injection hb with _ hb
        exact hb.symm
       rw [e]; exact ⟨by decide, by decide⟩))) hPC (by have := HNN.out; omega) (by have h1 := HSTK.out.set (j := 2) (u := .int .i64 (N1 : Int)); rw [HN1.out] at h1 ⊢; exact h1) (by rw [HT.out]; exact ⟨HHH.out, hh1, hh2⟩)
       (by rw [HT.out, HP0.out]; exact sk_lower HSKW.out) (by rw [HT.out, HP0.out]; exact sk_upper HSKW.out HNO.out)
      refine bodyPost_ret (v := (⟨0, 0, 0, false⟩ : An).v) ?_ ?_ ?_
      ·exact results_cell_row rfl _ _ (w.heap.size + 1) 84 _ (0, 0) _ rfl (ans_bc HBQ.out) Tryz.underlying84 rfl info_ans4
      ·rfl
      exact ⟨_, by rw [HPUT.out], hg.ans4 HBQ.out (by decide) (by decide) (by decide), by rw [HPUT.out, pL_ins hPC, HT.out], KQ.ans4 (KQ.set (p := ⟨s, 2, none⟩) (u := .int .i64 (N1 : Int)) HKQ.out (.inl ⟨HSKW.out.hs, _, _, .inr (.inr rfl), HSTK.out⟩)) (by omega)⟩
 ·rw [if_neg hnx] at l0
  have hk1 : hasKey (pL ts) key = false := by
   cases hh : hasKey (pL ts) key with
   | false => rfl
   | true => exact absurd (hasI.1 hh).1 hnx
  have HNO := hide hk1
  clear hasI hk1
  have hst := tr_store ts key w1 W HWE.out
  have r0 : _ = some (Value.int .i64 0) := (HBAW.out).cell 0
  have r1 : _ = some (Value.int .i64 0) := (HBAW.out).cell 1
  have r2 : _ = some (Value.int .i64 0) := (HBAW.out).cell 2
  have r3 : _ = some (Value.bool false) := (HBAW.out).cell 3
  have q0 := (HBAW.out).frozen 0
  have q1 := (HBAW.out).frozen 1
  have q2 := (HBAW.out).frozen 2
  have q3 := (HBAW.out).frozen 3
  obtain ⟨N, hN⟩ : ∃ N, N = ts.length - 1 := ⟨_, rfl⟩
  rw [<- hN] at m2 hs2
  have hlN : ts.length = N + 1 := by omega
  have HNN := hide hlN
  have hB0 : below (pL ts) key = P0 := by rw [HP0.out, pF_below HSKW.out]
  by_cases hfull : N = 200
  ·have HPUT : Hid (putL (pL ts) key val = (pL ts, ⟨2, 0, 0, false⟩)) := hide (by rw [putL, if_neg (by rw [HNO.out]; simp), if_pos (by rw [pL_len]; omega)])
   have hmb : ((N : Int) == 200) = true := by simp [hfull]
   clear hfull hN hlN hB0
   go_wp2
   go_quiet (fail)
   go_wp2
   have kd := Kp.drewN (Kp.refl W) (n := nq)
   have HBQ := hide (HBAW.out.kp kd)
   refine bodyPost_ret (v := (⟨2, 0, 0, false⟩ : An).v) ?_ ?_ ?_
   ·exact results_cell_row rfl _ _ (w.heap.size + 1) 84 _ (0, 0) _ rfl (ans_bc HBQ.out) Tryz.underlying84 rfl info_ans4
   ·rfl
   exact ⟨ts, by rw [HPUT.out], (HSKW.out.kp kd).ans4 HBQ.out (by decide) (by decide) (by decide), by rw [HPUT.out], KQ.ans4 (KQ.of (HKW0.out.trans kd)) (by omega)⟩
  ·have HPUT : Hid (putL (pL ts) key val = ((pL ts).take P0 ++ [(key, val)] ++ (pL ts).drop P0, ⟨0, 0, 0, false⟩)) := hide (by rw [putL, if_neg (by rw [HNO.out]; simp), if_neg (by rw [pL_len]; omega), hB0])
   have hmb : ((N : Int) == 200) = false := by simp; omega
   have hs3 : N <= 199 := by omega
   obtain ⟨h, hh, hh1, hh2⟩ := hgt_nat key
   have HHG := hide (fun W hd => height_any key W hd)
   rw [<- hh] at HHG
   have HHH := hide hh
   obtain ⟨CL, hCL, hmk⟩ := mk_links h hh2
   have HCL := hCL
   obtain ⟨C, hC⟩ : ∃ C, C = P0 + 1 := ⟨_, rfl⟩
   have HC := hide hC
   have s1 : IntKind.i64.wrap ((P0 : Int) + 1) = ((C : Nat) : Int) := by rw [IntWalk.i64_in _ (by omega)]; omega
   have KS : Hid (∀ W', Kp W W' -> W'.cell? ⟨w.heap.size, 0, none⟩ = some (.int .i64 key) /\ W'.cell? ⟨w.heap.size, 1, none⟩ = some (.int .i64 val) /\ W'.cell? ⟨w1.heap.size, 12, none⟩ = some (.int .i64 (P0 : Nat)) /\ Kp W W') := hide (fun W' hk => ⟨hk.cell x0, hk.cell x1, hk.cell a1, hk⟩)
   clear hh hN hlN hB0 hfull hCL hC
   go_wp2
   go_quiet (fail)
   go_wp2_with fail
   with_reducible refine (HHG.out _ ((HDB.out.kp HKW0.out).kp (by (exact Kp.auto)))).mono ?_
   rintro e w2 ⟨rfl, rfl⟩
   go_wp2_with fail
   go_region_held3 (fun w' => w'.cell? ⟨w.heap.size, 0, none⟩ = some (.int .i64 key) /\ w'.cell? ⟨w.heap.size, 1, none⟩ = some (.int .i64 val) /\ w'.cell? ⟨w1.heap.size, 12, none⟩ = some (.int .i64 (P0 : Nat)) /\ Kp W w')
    ((go_split_ands; refine KS.out _ ?_; (exact Kp.auto)))
    (fail)
   go_wp2
   obtain ⟨t, ht⟩ : ∃ t : Tw, t = ⟨W.heap.size + 1, W.heap.size, h, (key, val)⟩ := ⟨_, rfl⟩
   obtain ⟨X, hX⟩ : ∃ X, X = (((W.drewN (nq + 1)).alloc (.cells CL 225)).alloc (.cells #[.int .i64 key, .int .i64 val, .slice (some ⟨W.heap.size, 0, none⟩) h h] 173)) := ⟨_, rfl⟩
   have kX : Kp W X := by rw [hX]; exact (Kp.refl W).drewN.alloc.alloc
   have hbt : BC X t.b tT (twC t) := by
    rw [hX, ht]
    have hh := BC.new ((W.drewN (nq + 1)).alloc (.cells CL 225)) 173 [.int .i64 key, .int .i64 val, .slice (some ⟨W.heap.size, 0, none⟩) h h]
    rwa [show ((W.drewN (nq + 1)).alloc (.cells CL 225)).heap.size = W.heap.size + 1 by simp] at hh
   have hbg : BC X t.g tL (lkC (fun _ => (none, 0)) t.h) := by
    rw [hX, ht]
    have hh := (BC.new (W.drewN (nq + 1)) 225 CL.toList).kp (Kp.refl _).alloc (w' := ((W.drewN (nq + 1)).alloc (.cells CL.toList.toArray 225)).alloc (.cells #[.int .i64 key, .int .i64 val, .slice (some ⟨W.heap.size, 0, none⟩) h h] 173))
    rw [HCL.out] at hh ⊢
    exact hh
   have hPC : P0 + 1 <= ts.length := hPl
   have hsk0 : SKF X (Fq ts (pF ts key 0 + 1) t 0) (insT ts (pF ts key 0 + 1) t) B := by
    rw [<- HP0.out]
    have hB2 : B <= W.heap.size := Nat.le_trans hBw HKW0.out.size
    refine (HSKW.out.f.kp kX).ins hPC hbt hbg (fun i hi => ?_) (fun i hi => ?_) ?_
    ·have := (HSKW.out.f.tow i hi).lt; rw [ht]; simp only; omega
    ·have := (HSKW.out.f.lkb i hi).lt; rw [ht]; simp only; omega
    ·rw [ht]; simp only; omega
   have HREL : Hid (SpRel s ts key t w B w1.heap.size (.int .i64 0) X) := hide ⟨0, by omega, rfl, hsk0, HSKW.out.stk.kp kX, HTB.out.kp kX, HBAW.out.kp kX, KQ.of (HKW0.out.trans kX)⟩
   rw [<- hX]
   have HT := hide ht
   have hzW : w.heap.size <= W.heap.size := HKW0.out.size
   clear hX kX hbt hbg hsk0 a0 a1 x0 x1 b2 l0 m2 r0 r1 r2 r3 q0 q1 q2 q3 ht hmk hst g0 T1 IT
   go_loopw [62] (SpRel s ts key t w B w1.heap.size) (fun i _ => 12 - (intOf i).toNat)
   case atStart => exact HREL.out
   case round =>
    obtain ⟨q, hq, rfl, hskf, hstk, htb, hban, hkq⟩ := hrel
    rw [<- HP0.out] at hskf
    have HSKF := hide hskf
    have HSTK := hide hstk
    have HTBR := hide htb
    have HBAN := hide hban
    have HKQ := hide hkq
    clear hskf hstk htb hban hkq
    by_cases hq12 : q < 12
    ·obtain ⟨p, hp⟩ : ∃ p, p = pF ts key q := ⟨_, rfl⟩
     obtain ⟨_, hpq, _, _⟩ := isP_pF (key := key) HSKW.out hq12
     have hple := pF_le (key := key) HSKW.out hq12
     have hgap := pF_gap (key := key) HSKW.out hq12
     rw [<- hp, <- HP0.out] at hple
     rw [<- hp] at hpq
     rw [<- hp, <- HP0.out] at hgap
     have HGAP := hide hgap
     have hpC : p < P0 + 1 := by omega
     obtain ⟨hot, hol, hne, hoB, hoG⟩ := HSKF.out.at_old hPC hpC
     obtain ⟨hnt, hnl, hnB, hnG⟩ := HSKF.out.at_new hPC
     rw [HT.out] at hnt hnl hne hnB hnG
     simp only at hnt hnl hne hnB hnG
     have HNE := hide hne
     have t0 : wr.cell? ⟨w1.heap.size, q, none⟩ = some (.pointer (some ⟨(tw ts p).b, 0, none⟩)) := by rw [HTBR.out.cell, hp]; exact (trC_at ts key q hq12).1
     have t1 : wr.cell? ⟨w1.heap.size, 12 + q, none⟩ = some (.int .i64 (p : Nat)) := by rw [HTBR.out.cell, hp]; exact (trC_at ts key q hq12).2
     have o2 : wr.cell? ⟨(tw ts p).b, 2, none⟩ = some (.slice (some ⟨(tw ts p).g, 0, none⟩) (tw ts p).h (tw ts p).h) := hot.cell 2
     obtain ⟨hh1, hh2⟩ := lkC_at (Fq ts (P0 + 1) t q p) _ q hpq
     rw [fq_old hpC] at hh1 hh2
     have o3 : wr.cell? ⟨(tw ts p).g, q * 2, none⟩ = _ := (hol.cell (q * 2)).trans hh1
     have o4 : wr.cell? ⟨(tw ts p).g, q * 2 + 1, none⟩ = _ := (hol.cell (q * 2 + 1)).trans hh2
     have u3 := hol.frozen (q * 2)
     have u4 := hol.frozen (q * 2 + 1)
     have hpast := lnk_past (c := P0 + 1) hPC (by omega) hpC hgap
     have hwide := (lnk_wide ts q (i := p) (by omega)).1
     obtain ⟨x, hx⟩ : ∃ x, x = (lnk ts p q).1 := ⟨_, rfl⟩
     obtain ⟨y, hy⟩ : ∃ y, y = (lnk ts p q).2 := ⟨_, rfl⟩
     rw [<- hx] at o3
     rw [<- hy] at o4 hpast hwide
     have HX := hide hx
     have HY := hide hy
     have HP := hide hp
     have HOL := hide hol
     have hCP := HC.out
     have hN2 := HNN.out
     have b1 : (q : Int) < ((tw ts p).h : Int) := by omega
     have b0 : (0 : Int) <= (q : Int) := by omega
     have b12 : (q : Int) < 12 := by omega
     clear hp hx hy hot hol hgap hh1 hh2 hne
     by_cases hqh : q < h
     ·obtain ⟨M, hM⟩ : ∃ M, M = p + y + 1 - C := ⟨_, rfl⟩
      obtain ⟨D, hD⟩ : ∃ D, D = C - p := ⟨_, rfl⟩
      have s2 : IntKind.i64.wrap ((p : Int) + (y : Int)) = (p : Int) + (y : Int) := IntWalk.i64_in _ (by omega)
      have s3 : IntKind.i64.wrap ((p : Int) + (y : Int) + 1) = (p : Int) + (y : Int) + 1 := IntWalk.i64_in _ (by omega)
      have s4 : IntKind.i64.wrap ((p : Int) + (y : Int) + 1 - (C : Int)) = (M : Int) := by rw [IntWalk.i64_in _ (by omega)]; omega
      have s5 : IntKind.i64.wrap ((C : Int) - (p : Int)) = (D : Int) := by rw [IntWalk.i64_in _ (by omega)]; omega
      have d1 : decide (q < h) = true := decide_eq_true hqh
      have bh : (q : Int) < (h : Int) := by omega
      have n2 : wr.cell? ⟨W.heap.size + 1, 2, none⟩ = some (.slice (some ⟨W.heap.size, 0, none⟩) h h) := hnt.cell 2
      obtain ⟨v3, n3⟩ : ∃ v, wr.cell? ⟨W.heap.size, q * 2, none⟩ = some v := ⟨_, (hnl.cell (q * 2)).trans (List.getElem?_eq_getElem (by rw [lkC_len]; omega))⟩
      obtain ⟨v4, n4⟩ : ∃ v, wr.cell? ⟨W.heap.size, q * 2 + 1, none⟩ = some v := ⟨_, (hnl.cell (q * 2 + 1)).trans (List.getElem?_eq_getElem (by rw [lkC_len]; omega))⟩
      have u5 := hnl.frozen (q * 2)
      have u6 := hnl.frozen (q * 2 + 1)
      have e1 : ¬ (tw ts p).g = W.heap.size := HNE.out
      have e2 : ¬ W.heap.size = (tw ts p).g := fun e => HNE.out e.symm
      have e3 : ¬ w1.heap.size = W.heap.size := fun e => by have := HTB.out.lt; omega
      have e4 : ¬ W.heap.size = w1.heap.size := fun e => e3 e.symm
      have HM : Hid (M = p + (lnk ts p q).2 + 1 - (P0 + 1)) := hide (by rw [hM, hCP, HY.out])
      have HD : Hid (D = P0 + 1 - p) := hide (by rw [hD, hCP])
      have HNL := hide hnl
      clear hM hD hCP hN2 hpast hwide hnt hnl
      go_wp2
      go_region_held3 (fun w' => w'.cell? ⟨W.heap.size + 1, 2, none⟩ = some (.slice (some ⟨W.heap.size, 0, none⟩) h h) /\ w'.cell? ⟨(tw ts p).g, q * 2, none⟩ = some (.pointer x) /\ w'.cell? ⟨w1.heap.size, 12 + q, none⟩ = some (.int .i64 (p : Nat)) /\ w'.cell? ⟨(tw ts p).g, q * 2 + 1, none⟩ = some (.int .i64 (y : Nat)))
       (first | go_keep | fail) (fail)
      go_wp2
      have eg : t.g = W.heap.size := by rw [HT.out]
      have eb : t.b = W.heap.size + 1 := by rw [HT.out]
      have h1 := HSKF.out.put_hi hPC (by omega) hpC hpq HGAP.out (by rw [HT.out]; exact hqh) HX.out HM.out HD.out
      rw [eg, eb] at h1
      have a1 : s ≠ W.heap.size := HSTK.out.ne HNL.out (by decide)
      have a2 : s ≠ (tw ts p).g := HSTK.out.ne HOL.out (by decide)
      have a3 : w1.heap.size ≠ (tw ts p).g := HTBR.out.ne HOL.out (by decide)
      have a4 : w.heap.size + 1 ≠ W.heap.size := HBAN.out.ne HNL.out (by decide)
      have a5 : w.heap.size + 1 ≠ (tw ts p).g := HBAN.out.ne HOL.out (by decide)
      have k1 := KQ.set (p := ⟨W.heap.size, q * 2, none⟩) (u := .pointer x) HKQ.out (.inr hzW)
      have k2 := KQ.set (p := ⟨W.heap.size, q * 2 + 1, none⟩) (u := .int .i64 (M : Int)) k1 (.inr hzW)
      have k3 := KQ.set (p := ⟨(tw ts p).g, q * 2, none⟩) (u := .pointer (some ⟨W.heap.size + 1, 0, none⟩)) k2 (.inl ⟨hoG, _, _, .inr (.inl rfl), (HOL.out.far (p := ⟨W.heap.size, q * 2, none⟩) e1).far (p := ⟨W.heap.size, q * 2 + 1, none⟩) e1⟩)
      have k4 := KQ.set (p := ⟨(tw ts p).g, q * 2 + 1, none⟩) (u := .int .i64 (D : Int)) k3 (.inl ⟨hoG, _, _, .inr (.inl rfl), ((HOL.out.far (p := ⟨W.heap.size, q * 2, none⟩) e1).far (p := ⟨W.heap.size, q * 2 + 1, none⟩) e1).set⟩)
      have kd := Kp.drew (Kp.refl ((((wr.setCell ⟨W.heap.size, q * 2, none⟩ (.pointer x)).setCell ⟨W.heap.size, q * 2 + 1, none⟩ (.int .i64 (M : Int))).setCell ⟨(tw ts p).g, q * 2, none⟩ (.pointer (some ⟨W.heap.size + 1, 0, none⟩))).setCell ⟨(tw ts p).g, q * 2 + 1, none⟩ (.int .i64 (D : Int))))
      refine ⟨⟨q + 1, by omega, by go_num, by rw [<- HP0.out]; exact h1.kp kd, (BC.kp ?_ kd), (BC.kp ?_ kd), (BC.kp ?_ kd), k4.on kd⟩, by simp [intOf]; omega⟩
      ·exact (((HSTK.out.far a1).far a1).far a2).far a2
      ·exact (((HTBR.out.far e3).far e3).far a3).far a3
      ·exact (((HBAN.out.far a4).far a4).far a5).far a5
     ·obtain ⟨D, hD⟩ : ∃ D, D = y + 1 := ⟨_, rfl⟩
      have s2 : IntKind.i64.wrap ((y : Int) + 1) = (D : Int) := by rw [IntWalk.i64_in _ (by omega)]; omega
      have d1 : decide (q < h) = false := decide_eq_false hqh
      have HD : Hid (D = (lnk ts p q).2 + 1) := hide (by rw [hD, HY.out])
      clear hD hCP hN2 hpast hwide hnt hnl
      go_wp2
      have h1 := HSKF.out.put_lo hPC (by omega) hpC hpq HGAP.out (by rw [HT.out]; simp only; omega) HD.out
      have a2 : s ≠ (tw ts p).g := HSTK.out.ne HOL.out (by decide)
      have a3 : w1.heap.size ≠ (tw ts p).g := HTBR.out.ne HOL.out (by decide)
      have a5 : w.heap.size + 1 ≠ (tw ts p).g := HBAN.out.ne HOL.out (by decide)
      refine ⟨⟨q + 1, by omega, by go_num, by rw [<- HP0.out]; exact h1, HSTK.out.far a2, HTBR.out.far a3, HBAN.out.far a5, KQ.set (p := ⟨(tw ts p).g, q * 2 + 1, none⟩) (u := .int .i64 (D : Int)) HKQ.out (.inl ⟨hoG, _, _, .inr (.inl rfl), HOL.out⟩)⟩, by simp [intOf]; omega⟩
    ·obtain rfl : q = 12 := by omega
     obtain ⟨N1, hN1⟩ : ∃ N1, N1 = ts.length := ⟨_, rfl⟩
     have HN1 := hide hN1
     have m2 : wr.cell? ⟨s, 2, none⟩ = some (.int .i64 (N : Int)) := by rw [HSTK.out.cell 2, HNN.out]; rfl
     have f2 := HSTK.out.frozen 2
     have s2 : IntKind.i64.wrap ((N : Int) + 1) = (N1 : Int) := by rw [IntWalk.i64_in _ (by omega)]; have := HNN.out; omega
     have n1 : ¬ s = w.heap.size + 1 := HSTK.out.ne HBAN.out (by decide)
     have n2 : ¬ w.heap.size + 1 = s := fun e => n1 e.symm
     have r0 : _ = some (Value.int .i64 0) := (HBAN.out).cell 0
     have r1 : _ = some (Value.int .i64 0) := (HBAN.out).cell 1
     have r2 : _ = some (Value.int .i64 0) := (HBAN.out).cell 2
     have r3 : _ = some (Value.bool false) := (HBAN.out).cell 3
     have q0 := (HBAN.out).frozen 0
     have q1 := (HBAN.out).frozen 1
     have q2 := (HBAN.out).frozen 2
     have q3 := (HBAN.out).frozen 3
     clear hN1
     go_wp2
     have HBQ := hide (HBAN.out.far (p := ⟨s, 2, none⟩) (u := .int .i64 (N1 : Int)) n2)
     have hg := SK.grown HSKW.out (HSKF.out.far (p := ⟨s, 2, none⟩) (u := .int .i64 (N1 : Int)) (fun t' cs hb => (by
      have e : t' = tS := by
       have h1 := HSTK.out
       unfold BC at h1 hb
       rw [h1] at hb
       injection hb with hb
       injection hb with _ hb
       exact hb.symm
      rw [e]; exact ⟨by decide, by decide⟩))) hPC (by have := HNN.out; omega) (by have h1 := HSTK.out.set (j := 2) (u := .int .i64 (N1 : Int)); rw [HN1.out] at h1 ⊢; exact h1) (by rw [HT.out]; exact ⟨HHH.out, hh1, hh2⟩)
      (by rw [HT.out, HP0.out]; exact sk_lower HSKW.out) (by rw [HT.out, HP0.out]; exact sk_upper HSKW.out HNO.out)
     refine bodyPost_ret (v := (⟨0, 0, 0, false⟩ : An).v) ?_ ?_ ?_
     ·exact results_cell_row rfl _ _ (w.heap.size + 1) 84 _ (0, 0) _ rfl (ans_bc HBQ.out) Tryz.underlying84 rfl info_ans4
     ·rfl
     exact ⟨_, by rw [HPUT.out], hg.ans4 HBQ.out (by decide) (by decide) (by decide), by rw [HPUT.out, pL_ins hPC, HT.out], KQ.ans4 (KQ.set (p := ⟨s, 2, none⟩) (u := .int .i64 (N1 : Int)) HKQ.out (.inl ⟨HSKW.out.hs, _, _, .inr (.inr rfl), HSTK.out⟩)) (by omega)⟩
end Go.Proofs.YtcljlnagpjilaaaGreatDoor
