/-
  skip.stack.cut: what it answers and leaves. Conditions: the stack reads as ts (SK).
-/
import Derived.Test.YtfojphaemfbfnaaDoorG11
import Derived.Test.YtfojphaemfbfnaaDoorG12
import Derived.StillTailTactics

namespace Go.Proofs.YtfojphaemfbfnaaDoor
open Go.ChangeShapes Go.WideShapes Go.ChangeAt Go.RowKit
set_option linter.unusedVariables false
set_option linter.unusedSimpArgs false

def ScRel (s : Nat) (ts : List Tw) (ts0 : List Tw) (C : Nat) (t : Tw) (key : Int) (w : World) (B tb : Nat) (kv : Value) (wr : World) : Prop :=
  ∃ q : Nat, q ≤ 12 ∧ kv = .int .i64 (q : Int) ∧ SKF wr (Gq ts0 C t q) (insT ts0 C t) B ∧
    BC wr s tS [.pointer (some ⟨(tw ts 0).b, 0, none⟩), .int .i64 0, .int .i64 ((ts.length - 1 : Nat) : Int)] ∧
    BC wr tb tR (trC ts key 0) ∧ BC wr w.heap.size 50 [.int .i64 0, .int .i64 0, .int .i64 0, .bool false] ∧ KQ B w wr

set_option maxRecDepth 100000 in
set_option maxHeartbeats 8000000 in
theorem skCut_any (s : Nat) (ts : List Tw) (key : Int) (w : World) (B : Nat) (hsk : SK w s ts B) (hB : B ≤ w.heap.size) :
    Calls Tryd.prog 47 #[.pointer (some ⟨s, 0, none⟩), .int .i64 key] w (SkPost s (cutL (pL ts) key) B w) := by
  obtain ⟨w0, hw0⟩ : ∃ w0, w0 = w.alloc (.cells #[.int .i64 0, .int .i64 0, .int .i64 0, .bool false] 50) := ⟨_, rfl⟩
  have k0 : Kp w w0 := by rw [hw0]; exact (Kp.refl w).alloc
  have hz0 : w0.heap.size = w.heap.size + 1 := by rw [hw0]; simp
  have hba : BC w0 w.heap.size 50 [.int .i64 0, .int .i64 0, .int .i64 0, .bool false] := by
    rw [hw0]
    exact BC.new w 50 [.int .i64 0, .int .i64 0, .int .i64 0, .bool false]
  have HF := hide (find_kp s ts key w0 B (hsk.kp k0))
  have HW0 := hide hw0
  have HK0 := hide k0
  have HBA := hide hba
  have HZ0 := hide hz0
  have HSK := hide hsk
  have hBw := hB
  clear hw0 k0 hba hz0 hsk hB
  go_enter Tryd.func47, Tryd.ntmps47
  go_wp2_with fail
  rw [← HW0.out]
  with_reducible refine HF.out.mono ?_
  rintro e w1 ⟨rfl, k1⟩
  obtain ⟨W, hW⟩ : ∃ W, W = w1.alloc (.cells (trC ts key 0).toArray tR) := ⟨_, rfl⟩
  have kW : Kp w1 W := by rw [hW]; exact (Kp.refl _).alloc
  have htb : BC W w1.heap.size tR (trC ts key 0) := by rw [hW]; exact BC.new _ _ _
  have HKW0 := hide ((HK0.out.trans k1).trans kW)
  have HSKW := hide ((HSK.out.kp HK0.out).kp (k1.trans kW))
  have HBAW := hide (HBA.out.kp (k1.trans kW))
  have HTB := hide htb
  have hst := tr_store ts key w1 W hW
  have hz1 : w.heap.size + 1 ≤ w1.heap.size := by have := k1.size; have := HZ0.out; omega
  obtain ⟨P0, hP0⟩ : ∃ P0, P0 = pF ts key 0 := ⟨_, rfl⟩
  have HP0 := hide hP0
  have hPl : P0 < ts.length := by rw [hP0]; exact HSKW.out.len_lt
  have a0 : W.cell? ⟨w1.heap.size, 0, none⟩ = some (.pointer (some ⟨(tw ts P0).b, 0, none⟩)) := by rw [htb.cell, hP0]; exact (trC_at ts key 0 (by omega)).1
  have b2 := (HSKW.out.f.tower hPl).2.2
  have g0 := (HSKW.out.h12 hPl).1
  have l0 := (HSKW.out.f.link hPl (HSKW.out.h12 hPl).1).1
  rw [lnk_0 HSKW.out hPl, Nat.zero_mul] at l0
  have hasI : hasKey (pL ts) key = true ↔ (P0 + 1 < ts.length ∧ (tw ts (P0 + 1)).p.1 = key) := by rw [hP0]; exact sk_has HSKW.out
  have r0 : _ = some (Value.int .i64 0) := (HBAW.out).cell 0
  have r1 : _ = some (Value.int .i64 0) := (HBAW.out).cell 1
  have r2 : _ = some (Value.int .i64 0) := (HBAW.out).cell 2
  have r3 : _ = some (Value.bool false) := (HBAW.out).cell 3
  have q0 := (HBAW.out).frozen 0
  have q1 := (HBAW.out).frozen 1
  have q2 := (HBAW.out).frozen 2
  have q3 := (HBAW.out).frozen 3
  clear k1 kW htb hW hP0
  by_cases hnx : P0 + 1 < ts.length
  · rw [if_pos hnx] at l0
    have c2 := (HSKW.out.f.tower hnx).1
    by_cases hke : (tw ts (P0 + 1)).p.1 = key
    · have hk1 : hasKey (pL ts) key = true := hasI.2 ⟨hnx, hke⟩
      have d1 : ((tw ts (P0 + 1)).p.1 != key) = false := by simp [hke]
      have HHK := hide hk1
      have HKE := hide hke
      clear hasI hk1 hke r0 r1 r2 r3 q0 q1 q2 q3
      go_wp2
      obtain ⟨t, ht⟩ : ∃ t, t = tw ts (P0 + 1) := ⟨_, rfl⟩
      obtain ⟨ts0, hins, hl0, hc0⟩ := ins_of ts (P0 + 1) hnx
      rw [← ht] at hins
      have HT := hide ht
      have HINS := hide hins
      have kd := Kp.refl W
      have hskf0 : SKF W (Gq ts0 (P0 + 1) t 0) (insT ts0 (P0 + 1) t) B := by
        rw [← hins]
        refine (HSKW.out.f.kp kd).congr fun j r hj hr => ?_
        rw [gq_zero, ← hins]
      have HREL : Hid (ScRel s ts ts0 (P0 + 1) t key w B w1.heap.size (.int .i64 0) W) := hide ⟨0, by omega, rfl, hskf0, HSKW.out.stk.kp kd, HTB.out.kp kd, HBAW.out.kp kd, KQ.of (HKW0.out.trans kd)⟩
      have hbt : t.b = (tw ts (P0 + 1)).b := by rw [ht]
      have hgt : t.g = (tw ts (P0 + 1)).g := by rw [ht]
      have hht : t.h = (tw ts (P0 + 1)).h := by rw [ht]
      rw [← ht]
      have h12 := HSKW.out.h12 hnx
      rw [← ht] at h12
      have htw : ∀ x, x < P0 + 1 → tw ts x = tw ts0 x := fun x hx => by rw [hins, tw_ins hc0, if_pos hx]
      have HTW := hide htw
      clear hskf0 ht hins kd hst a0 b2 g0 l0 c2 hbt hgt hht htw d1
      go_loopw [33] (ScRel s ts ts0 (P0 + 1) t key w B w1.heap.size) (fun i _ => 12 - (intOf i).toNat)
      case atStart => exact HREL.out
      case round =>
        obtain ⟨q, hq, rfl, hskf, hstk, htb, hban, hkq⟩ := hrel
        have HSKF := hide hskf
        have HSTK := hide hstk
        have HTBR := hide htb
        have HBAN := hide hban
        have HKQ := hide hkq
        clear hskf hstk htb hban hkq
        obtain ⟨hnt, hnl, hnB, hnG⟩ := HSKF.out.at_new hc0
        by_cases hq12 : q < 12
        · obtain ⟨p, hp⟩ : ∃ p, p = pF ts key q := ⟨_, rfl⟩
          obtain ⟨_, hpq, _, _⟩ := isP_pF (key := key) HSKW.out hq12
          have hple := pF_le (key := key) HSKW.out hq12
          have hgap := pF_gap (key := key) HSKW.out hq12
          rw [← hp, ← HP0.out] at hple
          have hpC : p < P0 + 1 := by omega
          rw [← hp, HTW.out p hpC] at hpq
          rw [← hp, ← HP0.out] at hgap
          have hgap0 : ∀ x, p < x → x < P0 + 1 → (tw ts0 x).h ≤ q := fun x h1 h2 => by rw [← HTW.out x h2]; exact hgap x h1 h2
          have HGAP := hide hgap0
          obtain ⟨hot, hol, hne, hoB, hoG⟩ := HSKF.out.at_old hc0 hpC
          have HNE := hide hne
          have t0 : wr.cell? ⟨w1.heap.size, q, none⟩ = some (.pointer (some ⟨(tw ts0 p).b, 0, none⟩)) := by rw [HTBR.out.cell, ← HTW.out p hpC, hp]; exact (trC_at ts key q hq12).1
          have o2 : wr.cell? ⟨(tw ts0 p).b, 2, none⟩ = some (.slice (some ⟨(tw ts0 p).g, 0, none⟩) (tw ts0 p).h (tw ts0 p).h) := hot.cell 2
          have n2 : wr.cell? ⟨t.b, 2, none⟩ = some (.slice (some ⟨t.g, 0, none⟩) t.h t.h) := hnt.cell 2
          obtain ⟨hh1, hh2⟩ := lkC_at (Gq ts0 (P0 + 1) t q p) _ q hpq
          rw [gq_old p (by omega)] at hh1 hh2
          have hpast := lnk_past (c := P0 + 1) hc0 (by omega) hpC hgap0
          have hwide := (lnk_wide ts0 q (i := p) (by omega)).1
          have HOL := hide hol
          have b1 : (q : Int) < ((tw ts0 p).h : Int) := by omega
          have b0 : (0 : Int) ≤ (q : Int) := by omega
          have b12 : (q : Int) < 12 := by omega
          have hlen := HSKW.out.len
          have u3 := hol.frozen (q * 2)
          have u4 := hol.frozen (q * 2 + 1)
          obtain ⟨D, hD⟩ : ∃ D, D = (lnk ts0 p q).2 := ⟨_, rfl⟩
          obtain ⟨x, hx⟩ : ∃ x, x = (lnk ts0 p q).1 := ⟨_, rfl⟩
          have HD := hide hD
          have HX := hide hx
          by_cases hqh : q < t.h
          · rw [lnk_ins_high hc0 hpC hgap0 hqh] at hh1 hh2
            obtain ⟨kk1, kk2⟩ := lkC_at (Gq ts0 (P0 + 1) t q (P0 + 1)) _ q hqh
            rw [gq_at, lnk_ins_at hc0 (by omega) hpC hgap0] at kk1 kk2
            simp only at hh1 hh2 kk1 kk2
            rw [← hx] at kk1
            rw [← hD] at kk2 hpast hwide
            obtain ⟨y1, hy1⟩ : ∃ y, y = P0 + 1 - p := ⟨_, rfl⟩
            obtain ⟨y2, hy2⟩ : ∃ y, y = p + D + 1 - (P0 + 1) := ⟨_, rfl⟩
            rw [← hy1] at hh2
            rw [← hy2] at kk2
            have o3 : wr.cell? ⟨(tw ts0 p).g, q * 2, none⟩ = _ := (hol.cell (q * 2)).trans hh1
            have o4 : wr.cell? ⟨(tw ts0 p).g, q * 2 + 1, none⟩ = _ := (hol.cell (q * 2 + 1)).trans hh2
            have n3 : wr.cell? ⟨t.g, q * 2, none⟩ = _ := (hnl.cell (q * 2)).trans kk1
            have n4 : wr.cell? ⟨t.g, q * 2 + 1, none⟩ = _ := (hnl.cell (q * 2 + 1)).trans kk2
            have s2 : IntKind.i64.wrap ((y1 : Int) + (y2 : Int)) = (y1 : Int) + (y2 : Int) := IntWalk.i64_in _ (by omega)
            have s3 : IntKind.i64.wrap ((y1 : Int) + (y2 : Int) - 1) = (D : Int) := by rw [IntWalk.i64_in _ (by omega)]; omega
            have d1 : decide (q < t.h) = true := decide_eq_true hqh
            have bh : (q : Int) < (t.h : Int) := by omega
            clear hD hx hp hy1 hy2 hpast hwide hnt hnl hot hol hh1 hh2 kk1 kk2 hgap hgap0 hne hlen
            go_wp2
            go_still_tail 25, (by kernel_rfl)
            change wpList _ _ _ _ _ wr.drew
            go_wp2
            have e1 : (tw ts0 p).g ≠ t.g := HNE.out
            have h1 := HSKF.out.cut1 hc0 (by omega) hpC hpq HGAP.out HX.out HD.out
            have a2 : s ≠ (tw ts0 p).g := HSTK.out.ne HOL.out (by decide)
            have a3 : w1.heap.size ≠ (tw ts0 p).g := HTBR.out.ne HOL.out (by decide)
            have a5 : w.heap.size ≠ (tw ts0 p).g := HBAN.out.ne HOL.out (by decide)
            have k3 := KQ.set (p := ⟨(tw ts0 p).g, q * 2, none⟩) (u := .pointer x) HKQ.out (.inl ⟨hoG, _, _, .inr (.inl rfl), HOL.out⟩)
            have k4 := KQ.set (p := ⟨(tw ts0 p).g, q * 2 + 1, none⟩) (u := .int .i64 (D : Int)) k3 (.inl ⟨hoG, _, _, .inr (.inl rfl), HOL.out.set⟩)
            have kd := Kp.drew (Kp.refl ((wr.setCell ⟨(tw ts0 p).g, q * 2, none⟩ (.pointer x)).setCell ⟨(tw ts0 p).g, q * 2 + 1, none⟩ (.int .i64 (D : Int))))
            exact ⟨⟨q + 1, by omega, by go_num, h1.kp kd, BC.kp ((HSTK.out.far a2).far a2) kd, BC.kp ((HTBR.out.far a3).far a3) kd, BC.kp ((HBAN.out.far a5).far a5) kd, k4.on kd⟩, by simp [intOf]; omega⟩
          · rw [lnk_ins_low hc0 hpC hgap0 (by omega)] at hh1 hh2
            rw [← hD] at hh2 hwide
            have o4 : wr.cell? ⟨(tw ts0 p).g, q * 2 + 1, none⟩ = some (.int .i64 ((D + 1 : Nat) : Int)) := (hol.cell (q * 2 + 1)).trans hh2
            obtain ⟨y, hy⟩ : ∃ y, y = D + 1 := ⟨_, rfl⟩
            rw [← hy] at o4
            have s2 : IntKind.i64.wrap ((y : Int) - 1) = (D : Int) := by rw [IntWalk.i64_in _ (by omega)]; omega
            have d1 : decide (q < t.h) = false := decide_eq_false hqh
            clear hD hx hp hy hpast hwide hnt hnl hot hol hh1 hh2 hgap hgap0 hne hlen
            go_wp2
            have h1 := HSKF.out.cut0 hc0 (by omega) hpC hpq HGAP.out (by omega) HD.out
            have a2 : s ≠ (tw ts0 p).g := HSTK.out.ne HOL.out (by decide)
            have a3 : w1.heap.size ≠ (tw ts0 p).g := HTBR.out.ne HOL.out (by decide)
            have a5 : w.heap.size ≠ (tw ts0 p).g := HBAN.out.ne HOL.out (by decide)
            exact ⟨⟨q + 1, by omega, by go_num, h1, HSTK.out.far a2, HTBR.out.far a3, HBAN.out.far a5, KQ.set (p := ⟨(tw ts0 p).g, q * 2 + 1, none⟩) (u := .int .i64 (D : Int)) HKQ.out (.inl ⟨hoG, _, _, .inr (.inl rfl), HOL.out⟩)⟩, by simp [intOf]; omega⟩
        · obtain rfl : q = 12 := by omega
          obtain ⟨N, hN⟩ : ∃ N, N = ts.length - 1 := ⟨_, rfl⟩
          obtain ⟨N1, hN1⟩ : ∃ N1, N1 = ts0.length - 1 := ⟨_, rfl⟩
          have HN1 := hide hN1
          have m2 : wr.cell? ⟨s, 2, none⟩ = some (.int .i64 (N : Int)) := by rw [HSTK.out.cell 2, hN]; rfl
          have f2 := HSTK.out.frozen 2
          have hlen := HSKW.out.len
          have s2 : IntKind.i64.wrap ((N : Int) - 1) = (N1 : Int) := by rw [IntWalk.i64_in _ (by omega)]; omega
          have n1 : ¬ s = w.heap.size := HSTK.out.ne HBAN.out (by decide)
          have n2 : ¬ w.heap.size = s := fun e => n1 e.symm
          have n3 : ¬ t.b = s := hnt.ne HSTK.out (by decide)
          have v1 : wr.cell? ⟨t.b, 1, none⟩ = some (.int .i64 t.p.2) := hnt.cell 1
          have n4 : ¬ s = t.b := fun e => n3 e.symm
          have r0 : _ = some (Value.int .i64 0) := (HBAN.out).cell 0
          have r1 : _ = some (Value.int .i64 0) := (HBAN.out).cell 1
          have r2 : _ = some (Value.int .i64 0) := (HBAN.out).cell 2
          have r3 : _ = some (Value.bool false) := (HBAN.out).cell 3
          have q0 := (HBAN.out).frozen 0
          have q1 := (HBAN.out).frozen 1
          have q2 := (HBAN.out).frozen 2
          have q3 := (HBAN.out).frozen 3
          clear hN1 hN hnt hnl hlen
          go_wp2
          have HBQ := hide (HBAN.out.far (p := ⟨s, 2, none⟩) (u := .int .i64 (N1 : Int)) n2)
          have hg := SK.shrunk (t := t) (c := P0 + 1) (ts := ts0) (by rw [← HINS.out]; exact HSKW.out) (HSKF.out.far (p := ⟨s, 2, none⟩) (u := .int .i64 (N1 : Int)) (fun t' cs hb => (by
            have e : t' = tS := by
              have h1 := HSTK.out
              unfold BC at h1 hb
              rw [h1] at hb
              injection hb with hb
              injection hb with _ hb
              exact hb.symm
            rw [e]; exact ⟨by decide, by decide⟩))) hc0 (by omega) (by have h1 := HSTK.out.set (j := 2) (u := .int .i64 (N1 : Int)); rw [HN1.out] at h1 ⊢; rw [← HTW.out 0 (by omega)]; exact h1)
          have hval : Hid (cutL (pL ts) key = (pL ts0, ⟨0, 0, t.p.2, true⟩)) := hide (by
            have hb0 : below (pL ts) key = P0 := by rw [HP0.out, pF_below HSKW.out]
            rw [cutL, if_pos HHK.out, hb0, pL_cut HINS.out hc0, gv_eq _ _ (by rw [pL_len]; omega), pL_at, ← HT.out])
          refine bodyPost_ret (v := (⟨0, 0, t.p.2, true⟩ : An).v) ?_ ?_ ?_
          · exact results_cell_row rfl _ _ w.heap.size 50 _ (0, 0) _ rfl (ans_bc HBQ.out) Tryd.underlying50 rfl info_ans4
          · rfl
          exact ⟨_, by rw [hval.out], hg.ans4 HBQ.out (by decide) (by decide) (by decide), by rw [hval.out], KQ.ans4 (KQ.set (p := ⟨s, 2, none⟩) (u := .int .i64 (N1 : Int)) HKQ.out (.inl ⟨HSKW.out.hs, _, _, .inr (.inr rfl), HSTK.out⟩)) (by omega)⟩
    · have hk1 : hasKey (pL ts) key = false := by
        cases hh : hasKey (pL ts) key with
        | false => rfl
        | true => exact absurd (hasI.1 hh).2 hke
      have d1 : ((tw ts (P0 + 1)).p.1 != key) = true := by simpa using hke
      have HNO := hide hk1
      clear hasI hk1 hke
      go_wp2
      have hval : Hid (cutL (pL ts) key = (pL ts, ⟨0, 0, 0, false⟩)) := hide (by rw [cutL, if_neg (by rw [HNO.out]; simp)])
      refine bodyPost_ret (v := (⟨0, 0, 0, false⟩ : An).v) ?_ ?_ ?_
      · exact results_cell_row rfl _ _ w.heap.size 50 _ (0, 0) _ rfl (ans_bc HBAW.out) Tryd.underlying50 rfl info_ans4
      · rfl
      exact ⟨ts, by rw [hval.out], HSKW.out.ans4 HBAW.out (by decide) (by decide) (by decide), by rw [hval.out], KQ.ans4 (KQ.of HKW0.out) (Nat.le_refl _)⟩
  · rw [if_neg hnx] at l0
    have hk1 : hasKey (pL ts) key = false := by
      cases hh : hasKey (pL ts) key with
      | false => rfl
      | true => exact absurd (hasI.1 hh).1 hnx
    have HNO := hide hk1
    clear hasI hk1
    go_wp2
    have hval : Hid (cutL (pL ts) key = (pL ts, ⟨0, 0, 0, false⟩)) := hide (by rw [cutL, if_neg (by rw [HNO.out]; simp)])
    refine bodyPost_ret (v := (⟨0, 0, 0, false⟩ : An).v) ?_ ?_ ?_
    · exact results_cell_row rfl _ _ w.heap.size 50 _ (0, 0) _ rfl (ans_bc HBAW.out) Tryd.underlying50 rfl info_ans4
    · rfl
    exact ⟨ts, by rw [hval.out], HSKW.out.ans4 HBAW.out (by decide) (by decide) (by decide), by rw [hval.out], KQ.ans4 (KQ.of HKW0.out) (Nat.le_refl _)⟩
end Go.Proofs.YtfojphaemfbfnaaDoor
