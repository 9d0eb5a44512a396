/-
  hedgkeep.GoatWork: the walk: it answers true. Conditions: the ops read as ops (RD), the table (DTb).
  hedgkeep.GoatWork: THE STATEMENT: for every input it answers true. Conditions: the table of math/bits holds what the program's text lays (tied on the card).
-/
import Derived.Test.YtpkkajglbklboaaDoorG14
import Derived.Test.YtpkkajglbklboaaDoorG26
import Derived.Test.YtpkkajglbklboaaDoorG8
import Derived.Lib.MinMax
import Derived.Test.YtpkkajglbklboaaDoorG2
import Derived.Test.YtpkkajglbklboaaDoorCards
import Derived.Test.YtpkkajglbklboaaDoorTie
import Derived.SevenTiedAt

namespace Go.Proofs.YtpkkajglbklboaaDoor
open Go.ChangeShapes Go.WideShapes Go.ChangeAt Go.RowKit
set_option linter.unusedVariables false
set_option linter.unusedSimpArgs false

def GwRel (z : List (O3 × An)) (w : World) (mv ev nv tv iv : Value) (wr : World) : Prop :=
  ∃ k : Nat, k ≤ z.length ∧ iv = .int .i64 k ∧ mv = .int .i64 ((ctT (z.take k)).came : Int) ∧ ev = .int .i64 ((ctT (z.take k)).went : Int) ∧ nv = .int .i64 ((ctT (z.take k)).now : Int) ∧ tv = .int .i64 ((ctT (z.take k)).top : Int) ∧ Kp w wr
set_option maxRecDepth 100000 in
set_option maxHeartbeats 8000000 in
theorem goatWork_walk (ops : List O3) (v : Value) (w : World) (hr : RD w eOp v ops) (hdb : DTb w) : Calls Tryd.prog 3 #[v] w (Ret (.bool true) w) := by
  obtain ⟨A, c, rfl, hc, hm⟩ := hr.shape
  have HR := hide hr
  have HDB := hide hdb
  clear hr hdb
  have HRU := hide (fun W v h => goatRun_any ops v W h)
  by_cases hlen : ops.length > 300
  · have hru : goatRun ops = ([], 0, [], 2) := by rw [goatRun, if_pos hlen]
    rw [hru] at HRU
    clear hru
    go_enter Tryd.func3, Tryd.ntmps3
    go_wp2_with fail
    with_reducible refine (HRU.out _ _ HR.out).mono ?_
    rintro e w1 ⟨v1, u1, rfl, hr1, hu1, hb1⟩
    have kk1 := Kp.of hb1
    obtain ⟨A1, c1, rfl, _, _⟩ := hr1.shape
    obtain ⟨B1, d1, rfl, _, _⟩ := hu1.shape
    clear hr1 hu1 hb1
    go_wp2_with fail
    with_reducible refine (goatLives_any _ (HDB.out.kp kk1)).mono ?_
    rintro e w2 ⟨rfl, hb2⟩
    have kk2 := Kp.of hb2
    clear hb2
    go_wp2_with fail
    with_reducible refine (goatLives_any _ (HDB.out.kp (kk1.trans kk2))).mono ?_
    rintro e w3 ⟨rfl, hb3⟩
    have kk3 := Kp.of hb3
    clear hb3
    go_wp2
    go_ret
    exact ⟨rfl, (kk1.trans (kk2.trans kk3)).bel⟩
  · have hru : goatRun ops = ((gtT (opsZ ops)).T.spotsBy Prod.fst 0, ((gtT (opsZ ops)).built : Int), (runL ops).2, 0) := by rw [goatRun, if_neg hlen]
    have hge := gt_end ops
    have htp2 := hge.top2
    have hD0 := deepF_lt (ctT (opsZ ops)).top (by omega)
    have hwork := hge.work (deepF (ctT (opsZ ops)).top) (Nat.le_refl _)
    have hpot : (gtT (opsZ ops)).built ≤ pot (gtT (opsZ ops)) := by unfold pot; omega
    have hal := runL_len ops ops.length (Nat.le_refl _)
    rw [List.take_length] at hal
    have hzl : (opsZ ops).length = ops.length := by rw [opsZ, List.length_zip, hal]; omega
    have hzk : ∀ k (h : k < (opsZ ops).length) (h1 : k < ops.length) (h2 : k < (runL ops).2.length), (opsZ ops)[k] = (ops[k], (runL ops).2[k]) := fun k h h1 h2 => by simp [opsZ]
    have hnw := fun k hk h2 he ho hi => gt_now ops k hk h2 he ho hi
    have hsm := fun k hk => ct_small ops k hk
    have hcw := (ct_small ops ops.length (Nat.le_refl _)).1
    rw [List.take_of_length_le (show (opsZ ops).length ≤ ops.length by omega)] at hcw
    obtain ⟨z, hz⟩ : ∃ z, z = opsZ ops := ⟨_, rfl⟩
    rw [← hz] at hru htp2 hD0 hwork hpot hzl hzk hnw hsm hcw
    obtain ⟨an, han⟩ : ∃ a, a = (runL ops).2 := ⟨_, rfl⟩
    have HZK : Hid (∀ k (h : k < z.length) (h1 : k < ops.length) (h2 : k < an.length), z[k] = (ops[k], an[k])) := hide (by subst han; exact hzk)
    have HNW : Hid (∀ k (hk : k < ops.length) (h2 : k < an.length), (an[k]'h2).err = 0 → ops[k].1 = 3 → (an[k]'h2).is = true → 1 ≤ (ctT (z.take k)).now) := hide (by subst han; exact hnw)
    rw [← han] at hru hal
    obtain ⟨s, hs⟩ : ∃ s, s = (gtT z).T.spotsBy Prod.fst 0 := ⟨_, rfl⟩
    rw [← hs] at hru
    obtain ⟨bu, hbu⟩ : ∃ x, x = (gtT z).built := ⟨_, rfl⟩
    rw [← hbu] at hru hpot
    rw [hru] at HRU
    have HFIN : Hid ((ctT z).top ≤ 200 ∧ (ctT z).came + (ctT z).went ≤ 300 ∧ bu ≤ 6 * ((ctT z).came + (ctT z).went) * (deepF (ctT z).top + 2)) := hide (by
      refine ⟨htp2, by omega, ?_⟩
      obtain ⟨D, hD⟩ : ∃ D, D = deepF (ctT z).top := ⟨_, rfl⟩
      rw [← hD] at hwork ⊢
      have h1 : (ctT z).came * (3 * (D + 1)) ≤ (ctT z).came * (6 * (D + 2)) := Nat.mul_le_mul_left _ (by omega)
      have h2 : (ctT z).went * (3 * (D + 1) + 2) ≤ (ctT z).went * (6 * (D + 2)) := Nat.mul_le_mul_left _ (by omega)
      have h3 : 6 * ((ctT z).came + (ctT z).went) * (D + 2) = (ctT z).came * (6 * (D + 2)) + (ctT z).went * (6 * (D + 2)) := by
        rw [← Nat.add_mul, Nat.mul_comm 6, Nat.mul_assoc]
      omega)
    have HSM := hide hsm
    have HZL := hide hzl
    have HAL := hide hal
    have HTL : Hid (z.take z.length = z) := hide (List.take_length)
    have HLE : Hid (ops.length ≤ 300) := hide (by omega)
    clear hru hge htp2 hD0 hwork hpot hal hzl hzk hnw hsm hcw hs hz han hbu
    go_enter Tryd.func3, Tryd.ntmps3
    go_wp2_with fail
    with_reducible refine (HRU.out _ _ HR.out).mono ?_
    rintro e w1 ⟨v1, u1, rfl, hr1, hu1, hb1⟩
    have kk1 := Kp.of hb1
    obtain ⟨A1, c1, rfl, _, _⟩ := hr1.shape
    obtain ⟨B1, d1, rfl, hc2, _⟩ := hu1.shape
    have HS := hide hr1
    have HU := hide hu1
    have hcc : an.length ≤ 9223372036854775807 := by have h := hc2; simp only at h; omega
    clear hr1 hu1 hb1
    go_wp2_with fail
    with_reducible refine (goatLives_any _ (HDB.out.kp kk1)).mono ?_
    rintro e w2 ⟨rfl, hb2⟩
    have kk2 := Kp.of hb2
    clear hb2
    have HU3 := hide (HU.out.kp kk2)
    have HR3 := hide (HR.out.kp (kk1.trans kk2))
    have HK3 := hide (kk1.trans kk2)
    clear kk1 kk2
    go_wp2
    go_loopw [7, 8, 9, 10, 35] (GwRel z w2) (fun _ _ _ _ i _ => z.length - (intOf i).toNat)
    case atStart => exact ⟨0, by omega, rfl, rfl, rfl, rfl, rfl, Kp.refl _⟩
    case round =>
      obtain ⟨k, hk, rfl, rfl, rfl, rfl, rfl, hkp⟩ := hrel
      by_cases hlt : k < z.length
      · have hko : k < ops.length := by rw [← HZL.out]; exact hlt
        have hka : k < an.length := by rw [HAL.out]; exact hko
        have dk : decide (k < ops.length) = true := by simp [hko]
        have bka : (k : Int) < (an.length : Int) := by omega
        have bk0 : (0 : Int) ≤ (k : Int) := by omega
        obtain ⟨b, o, rfl, _, x0, x1, x2⟩ := (HR3.out.kp hkp).op hko
        obtain ⟨b2, o2, rfl, _, y0, _, _, y3⟩ := (HU3.out.kp hkp).ans hka
        have kal := (Kp.refl wr).alloc (o := .cells #[.int .i64 ops[k].1, .int .i64 ops[k].2.1, .int .i64 ops[k].2.2] 30)
        have y0' := kal.cell y0
        have y3' := kal.cell y3
        have hst := ctT_snoc z k hlt
        rw [HZK.out k hlt hko hka] at hst
        simp only at hst
        have hsmk := HSM.out k (by omega)
        have hnwk := HNW.out k hko hka
        have hle3 := HLE.out
        obtain ⟨C, hC⟩ : ∃ C, C = ctT (z.take k) := ⟨_, rfl⟩
        rw [← hC] at hst hsmk hnwk ⊢
        obtain ⟨aa, haa⟩ : ∃ aa, aa = an[k] := ⟨_, rfl⟩
        rw [← haa] at hst hnwk y0 y3 y0' y3'
        obtain ⟨oo, hoo⟩ : ∃ oo, oo = ops[k] := ⟨_, rfl⟩
        rw [← hoo] at hst hnwk x0 x1 x2 y0' y3'
        obtain ⟨cm, wt, nw, tp⟩ := C
        obtain ⟨er, ak, av, ib⟩ := aa
        obtain ⟨kd, ky, vl⟩ := oo
        simp only at hst hsmk hnwk x0 x1 x2 y0 y3 y0' y3' ⊢
        have HKP := hide hkp
        clear hC haa hoo kal hkp
        by_cases he : er = 0
        · have d1 : (er != 0) = false := by simp [he]
          by_cases h1 : kd = 1
          · have d2 : (kd == 1) = true := by simp [h1]
            have d3 : (kd == 3) = false := by simp; omega
            cases ib with
            | false =>
              have hs : ctT (z.take (k + 1)) = ⟨cm + 1, wt, nw + 1, max tp (nw + 1)⟩ := by rw [hst, ctS, if_neg (by simp [he]), if_pos ⟨h1, rfl⟩]
              have v1 : IntKind.i64.wrap ((nw : Int) + 1) = (nw : Int) + 1 := IntWalk.i64_in _ (by omega)
              have v2 : IntKind.i64.wrap ((cm : Int) + 1) = (cm : Int) + 1 := IntWalk.i64_in _ (by omega)
              obtain ⟨tx, htx⟩ : ∃ x, x = max tp (nw + 1) := ⟨_, rfl⟩
              have v4 : max (tp : Int) ((nw : Int) + 1) = (tx : Int) := by omega
              rw [← htx] at hs
              have HS := hide hs
              clear hs hst htx he h1 hsmk hnwk
              go_wp2
              go_roundw
              case rel => exact ⟨k + 1, by omega, by go_num, by first | (rw [HS.out]; done) | (rw [HS.out]; first | rfl | (simp; done) | go_num), by first | (rw [HS.out]; done) | (rw [HS.out]; first | rfl | (simp; done) | go_num), by first | (rw [HS.out]; done) | (rw [HS.out]; first | rfl | (simp; done) | go_num), by first | (rw [HS.out]; done) | (rw [HS.out]; first | rfl | (simp; done) | go_num), HKP.out.alloc⟩
              case measure => simp [intOf]; omega
            | true =>
              have hs : ctT (z.take (k + 1)) = ⟨cm, wt, nw, max tp nw⟩ := by rw [hst, ctS, if_neg (by simp [he]), if_neg (by simp), if_neg (by omega)]
              obtain ⟨tx, htx⟩ : ∃ x, x = max tp nw := ⟨_, rfl⟩
              have v4 : max (tp : Int) (nw : Int) = (tx : Int) := by omega
              rw [← htx] at hs
              have HS := hide hs
              clear hs hst htx he h1 hsmk hnwk
              go_wp2
              go_roundw
              case rel => exact ⟨k + 1, by omega, by go_num, by first | (rw [HS.out]; done) | (rw [HS.out]; first | rfl | (simp; done) | go_num), by first | (rw [HS.out]; done) | (rw [HS.out]; first | rfl | (simp; done) | go_num), by first | (rw [HS.out]; done) | (rw [HS.out]; first | rfl | (simp; done) | go_num), by first | (rw [HS.out]; done) | (rw [HS.out]; first | rfl | (simp; done) | go_num), HKP.out.alloc⟩
              case measure => simp [intOf]; omega
          · have d2 : (kd == 1) = false := by simp [h1]
            by_cases h3 : kd = 3
            · have d3 : (kd == 3) = true := by simp [h3]
              cases ib with
              | true =>
                obtain ⟨n1, rfl⟩ : ∃ n1, nw = n1 + 1 := ⟨nw - 1, by have := hnwk he h3 rfl; omega⟩
                have hs : ctT (z.take (k + 1)) = ⟨cm, wt + 1, n1, max tp n1⟩ := by rw [hst, ctS, if_neg (by simp [he]), if_neg (by simp), if_pos ⟨h3, rfl⟩]; rfl
                have hcast : (((n1 + 1 : Nat)) : Int) = (n1 : Int) + 1 := by omega
                have v1 : IntKind.i64.wrap ((n1 : Int) + 1 - 1) = (n1 : Int) := by rw [IntWalk.i64_in _ (by omega)]; omega
                have v1' : IntKind.i64.wrap (n1 : Int) = (n1 : Int) := IntWalk.i64_in _ (by omega)
                have v2 : IntKind.i64.wrap ((wt : Int) + 1) = (wt : Int) + 1 := IntWalk.i64_in _ (by omega)
                obtain ⟨tx, htx⟩ : ∃ x, x = max tp n1 := ⟨_, rfl⟩
                have v4 : max (tp : Int) (n1 : Int) = (tx : Int) := by omega
                rw [← htx] at hs
                have HS := hide hs
                rw [hcast]
                clear hs hst htx he h1 h3 hsmk hnwk hcast
                go_wp2
                go_roundw
                case rel => exact ⟨k + 1, by omega, by go_num, by first | (rw [HS.out]; done) | (rw [HS.out]; first | rfl | (simp; done) | go_num), by first | (rw [HS.out]; done) | (rw [HS.out]; first | rfl | (simp; done) | go_num), by first | (rw [HS.out]; done) | (rw [HS.out]; first | rfl | (simp; done) | go_num), by first | (rw [HS.out]; done) | (rw [HS.out]; first | rfl | (simp; done) | go_num), HKP.out.alloc⟩
                case measure => simp [intOf]; omega
              | false =>
                have hs : ctT (z.take (k + 1)) = ⟨cm, wt, nw, max tp nw⟩ := by rw [hst, ctS, if_neg (by simp [he]), if_neg (by omega), if_neg (by simp)]
                obtain ⟨tx, htx⟩ : ∃ x, x = max tp nw := ⟨_, rfl⟩
                have v4 : max (tp : Int) (nw : Int) = (tx : Int) := by omega
                rw [← htx] at hs
                have HS := hide hs
                clear hs hst htx he h1 h3 hsmk hnwk
                go_wp2
                go_roundw
                case rel => exact ⟨k + 1, by omega, by go_num, by first | (rw [HS.out]; done) | (rw [HS.out]; first | rfl | (simp; done) | go_num), by first | (rw [HS.out]; done) | (rw [HS.out]; first | rfl | (simp; done) | go_num), by first | (rw [HS.out]; done) | (rw [HS.out]; first | rfl | (simp; done) | go_num), by first | (rw [HS.out]; done) | (rw [HS.out]; first | rfl | (simp; done) | go_num), HKP.out.alloc⟩
                case measure => simp [intOf]; omega
            · have d3 : (kd == 3) = false := by simp [h3]
              have hs : ctT (z.take (k + 1)) = ⟨cm, wt, nw, max tp nw⟩ := by rw [hst, ctS, if_neg (by simp [he]), if_neg (by simp [h1]), if_neg (by simp [h3])]
              obtain ⟨tx, htx⟩ : ∃ x, x = max tp nw := ⟨_, rfl⟩
              have v4 : max (tp : Int) (nw : Int) = (tx : Int) := by omega
              rw [← htx] at hs
              have HS := hide hs
              clear hs hst htx he h1 h3 hsmk hnwk
              go_wp2
              go_roundw
              case rel => exact ⟨k + 1, by omega, by go_num, by first | (rw [HS.out]; done) | (rw [HS.out]; first | rfl | (simp; done) | go_num), by first | (rw [HS.out]; done) | (rw [HS.out]; first | rfl | (simp; done) | go_num), by first | (rw [HS.out]; done) | (rw [HS.out]; first | rfl | (simp; done) | go_num), by first | (rw [HS.out]; done) | (rw [HS.out]; first | rfl | (simp; done) | go_num), HKP.out.alloc⟩
              case measure => simp [intOf]; omega
        · have d1 : (er != 0) = true := by simp [he]
          have hs : ctT (z.take (k + 1)) = ⟨cm, wt, nw, tp⟩ := by rw [hst, ctS, if_pos (by simpa using he)]
          have HS := hide hs
          clear hs hst he hsmk hnwk
          go_wp2
          go_roundw
          case rel => exact ⟨k + 1, by omega, by go_num, by first | (rw [HS.out]; done) | (rw [HS.out]; first | rfl | (simp; done) | go_num), by first | (rw [HS.out]; done) | (rw [HS.out]; first | rfl | (simp; done) | go_num), by first | (rw [HS.out]; done) | (rw [HS.out]; first | rfl | (simp; done) | go_num), by first | (rw [HS.out]; done) | (rw [HS.out]; first | rfl | (simp; done) | go_num), HKP.out.alloc⟩
          case measure => simp [intOf]; omega
      · obtain rfl : k = z.length := by omega
        have dk : decide (z.length < ops.length) = false := by have := HZL.out; simp; omega
        rw [HTL.out]
        have hfin := HFIN.out
        obtain ⟨cm, hcm⟩ : ∃ C, C = ctT z := ⟨_, rfl⟩
        rw [← hcm] at hfin ⊢
        obtain ⟨cm, wt, nw, tp⟩ := cm
        simp only at hfin ⊢
        obtain ⟨f1, f2, f3⟩ := hfin
        have hda : deepA (tp : Int) = ((deepF tp : Int), 0) := by unfold deepA; rw [if_neg (by omega)]; simp
        have HD1 := hide (fun W => gtDeep_any (tp : Int) W)
        rw [hda] at HD1
        obtain ⟨D1, hD1⟩ : ∃ x, x = deepF tp := ⟨_, rfl⟩
        have hDb : D1 < 18 := by rw [hD1]; exact deepF_lt tp (by omega)
        rw [← hD1] at HD1 f3
        have v0 : min (tp : Int) 200 = (tp : Int) := by omega
        obtain ⟨cw, hcw⟩ : ∃ x, x = cm + wt := ⟨_, rfl⟩
        rw [← hcw] at f2 f3
        have v1 : IntKind.i64.wrap ((cm : Int) + (wt : Int)) = (cw : Int) := by rw [IntWalk.i64_in _ (by omega)]; omega
        obtain ⟨c6, hc6⟩ : ∃ x, x = 6 * cw := ⟨_, rfl⟩
        rw [← hc6] at f3
        have v2 : IntKind.i64.wrap (6 * (cw : Int)) = (c6 : Int) := by rw [IntWalk.i64_in _ (by omega)]; omega
        obtain ⟨D2, hD2⟩ : ∃ x, x = D1 + 2 := ⟨_, rfl⟩
        rw [← hD2] at f3
        have v3 : IntKind.i64.wrap ((D1 : Int) + 2) = (D2 : Int) := by rw [IntWalk.i64_in _ (by omega)]; omega
        obtain ⟨pr, hpr⟩ : ∃ x, x = c6 * D2 := ⟨_, rfl⟩
        have hprb : pr ≤ 1800 * 20 := by rw [hpr]; exact Nat.mul_le_mul (by omega) (by omega)
        rw [← hpr] at f3
        have v4 : IntKind.i64.wrap ((c6 : Int) * (D2 : Int)) = (pr : Int) := by rw [← Int.natCast_mul, ← hpr]; exact IntWalk.i64_in _ (by omega)
        have q0 : decide ((0 : Int) ≤ (bu : Int)) = true := decide_eq_true (by omega)
        have q1 : decide (bu ≤ pr) = true := decide_eq_true f3
        have q1' : (bu : Int) ≤ (pr : Int) := by omega
        have q0' : (0 : Int) ≤ (bu : Int) := by omega
        have HKP := hide hkp
        clear hcm hda hD1 hkp f1 f2 f3 hcw hc6 hD2 hpr
        go_wp2_with fail
        with_reducible refine (HD1.out _).mono ?_
        rintro e w4 ⟨rfl, rfl⟩
        go_wp2
        go_ret
        exact ⟨rfl, (HK3.out.trans HKP.out).bel⟩
end Go.Proofs.YtpkkajglbklboaaDoor
namespace Go.Proofs.YtpkkajglbklboaaDoor
open Go.ChangeShapes Go.WideShapes Go.ChangeAt Go.RowKit Go.Deep
set_option linter.unusedVariables false
set_option linter.unusedSimpArgs false

set_option maxRecDepth 100000 in
theorem goatWork_lifted (os : Os) (started : os.Started) (H : Type) (enc : TypeId × Value → H) :
    ReturnsInHanded {} Tryd.checked os 3 .any (fun w args => (Rows.goatWorkSpec.pre enc Tryd.prog Tryd.f3 Rows.goatWorkRow.domain false w args ∧ laidMetH Tryd.prog ZLaid w) ∧ sizedMet enc Tryd.prog Tryd.f3 (OpenSpec.ofChange Rows.goatWorkSpec) false w args) (Rows.goatWorkSpec.post enc Tryd.prog Tryd.f3 false true false false) := by
  refine returnsInHanded_of_change_and (C := Tryd.checked) (X := fun w _ => laidMetH Tryd.prog ZLaid w) (fun _ _ _ hh h => h.of_heap hh) own started (by kernel_rfl) Tryd.func3
    (ChangeSpec.witness_at (enc := enc) (C := Tryd.checked) (os := os) (X := fun w _ => laidMetH Tryd.prog ZLaid w) false (laidWorldZ os) #[.slice none 0 0] 8 rfl (by kernel_rfl) (by kernel_rfl) (by kernel_rfl) (by kernel_rfl) (by kernel_rfl) (laidZ_met os _)) ?_
  intro W base args ds gs before hval0 hW hcnd _ hL _
  have hval : ∀ (j : Nat) t v, Tryd.f3.params[j]? = some t → args[j]? = some v → Value.okWide Tryd.prog W .any base t v := hval0
  have hW' := hW
  obtain ⟨p, q, hA0, hV, rfl, hfz, hnd⟩ := hW
  have hA : DataW.TrodAll enc Tryd.prog W 0 (fun _ => true) true Tryd.f3.params.toList args.toList ds p := hA0
  rw [Tryd.params3] at hA hval
  obtain ⟨v0, vs0, d0, ds0, p0, q0, hargs, rfl, rfl, h0, r0⟩ := trodAll_cons hA
  obtain ⟨rfl, rfl, rfl⟩ := trodAll_nil r0
  obtain rfl : args = #[v0] := by cases args; simp_all
  obtain ⟨rfl, rfl⟩ := trodVars_none hV
  obtain ⟨a0, n0, c0, rfl⟩ := okWide_slice Tryd.underlying22 (hval 0 22 v0 rfl rfl)
  have lt0 : ∀ x ∈ p0, x.block < W.heap.size := by obtain ⟨m, hm⟩ := h0; exact DataW.trod_lt m _ _ _ hm
  obtain ⟨l0, w0⟩ := arg_ops h0
  clear hA0 hval0
  refine (goatWork_walk l0 _ W w0 (db_of_laid hL)).mono fun e W' ⟨he, bel⟩ => ?_
  subst he
  exact ⟨_, rfl, _, _, _, [], _, [], hW', trodAll_mk1 (shut_bool Tryd.underlying4 _), (trodAll_cons_mk (Below.trod laidOut (by kernel_rfl) (of_decide_eq_true (by kernel_rfl)) h0 bel lt0) trodAll_mk0), rfl, bel.frame _, fun h => by cases h⟩

set_option maxRecDepth 100000 in
set_option maxHeartbeats 8000000 in
theorem goatWork_closed : joinedFacts Tryd.checked.prog 3 Tryd.f3 Rows.goatWorkSpec Rows.goatWorkRow = true := by
  unfold joinedFacts
  repeat' (with_reducible refine and_true_of ?_ ?_)
  all_goals (as_aux_lemma => kernel_rfl)
theorem goatWork_over : Rows.goatWorkRow.holds Tryd.pinned (OpenSpec.ofChange Rows.goatWorkSpec) :=
  OpenClaim.holds_of_wide 3 Tryd.f3 rfl rfl rfl rfl rfl rfl rfl ⟨rfl, rfl, rfl, rfl, rfl⟩ rfl rfl rfl rfl rfl (by as_aux_lemma => kernel_rfl) Tryd.func3 goatWork_closed
    (of_decide_eq_true (by as_aux_lemma => kernel_rfl)) (by as_aux_lemma => unfold Func.isWrapper; first | (rw [if_pos (by decide +kernel)]; kernel_rfl) | (rw [if_neg (by decide +kernel)]; exact ⟨rfl, rfl⟩))
    (fun os started H enc _ => goatWork_lifted os started H enc)
set_option maxRecDepth 100000 in
theorem goatWork_proved : Rows.GoatWorkCardSaid :=
  Claim7.holds_tied_plain_at .later [] [.data] true _ false goatWork_over (fun _ h => by cases h) (by kernel_rfl) (fun _ h => by cases h) goatWork_row_tie rfl ⟨rfl, rfl⟩ (by kernel_rfl) rfl
    (fun f fn hf hfn => by
      obtain rfl : f = 3 := Option.some.inj ((show Tryd.prog.funcNamed "hedgewright/hedgkeep.GoatWork" = some 3 by kernel_rfl).symm.trans hf) |>.symm
      obtain rfl : fn = Tryd.f3 := (Option.some.inj (Tryd.func3.symm.trans hfn)).symm
      exact ⟨by kernel_rfl, fun j t ht => by
        have h : (Tryd.f3.params.toList.all fun t => !Tryd.prog.wantsStandIn t) = true := by kernel_rfl
        have hm : t ∈ Tryd.f3.params.toList := by
          rw [Array.mem_toList_iff]
          exact Array.mem_of_getElem? ht
        have h2 : Tryd.prog.wantsStandIn t = false := by simpa using List.all_eq_true.1 h t hm
        exact h2⟩)
    (by kernel_rfl)
#print axioms goatWork_proved
end Go.Proofs.YtpkkajglbklboaaDoor
