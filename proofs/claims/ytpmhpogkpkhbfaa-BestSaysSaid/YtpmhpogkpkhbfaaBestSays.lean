/-
  hedglaw.BestSays: the walk: it answers true. Conditions: the spots read as pairs, the lists as ints (RD).
-/
import Derived.Test.YtpmhpogkpkhbfaaBeLeast
import Derived.Test.YtpmhpogkpkhbfaaBeRight
import Derived.Test.YtpmhpogkpkhbfaaAsked
import Derived.Test.YtpmhpogkpkhbfaaBTree
import Derived.Test.YtpmhpogkpkhbfaaBRoots
import Derived.Test.YtpmhpogkpkhbfaaSpotsR
import Derived.Test.YtpmhpogkpkhbfaaSame
import Derived.Deep.DeepCutAuto
namespace Go.Proofs.Ytpmhpogkpkhbfaa
open Go.ChangeShapes Go.WideShapes Go.ChangeAt Go.RowKit
set_option linter.unusedVariables false
set_option linter.unusedSimpArgs false

theorem rowsS_len {T : Nat → Nat → Int} {n : Nat} : (rowsB T n).length = n := by simp [rowsB]
theorem rowsS_at {T : Nat → Nat → Int} {n k : Nat} (h : k < (rowsB T n).length) : (rowsB T n)[k] = rowB T n k := by simp [rowsB]
def sayK (l : List IP) (S0 : Int) : Nat → Int
  | 0 => S0
  | k + 1 => if sayK l S0 k = 0 ∧ gk l k ≠ (k : Int) then 3 else sayK l S0 k
theorem sayK_bad {l : List IP} {S0 : Int} (h : S0 ≠ 0) : ∀ k, sayK l S0 k = S0
  | 0 => rfl
  | k + 1 => by rw [sayK, sayK_bad h k, if_neg (fun e => h e.1)]
theorem sayK_ok {l : List IP} : ∀ k, (sayK l 0 k = 0 ∧ ∀ j, j < k → gk l j = (j : Int)) ∨ (sayK l 0 k = 3 ∧ ∃ j, j < k ∧ gk l j ≠ (j : Int))
  | 0 => .inl ⟨rfl, fun j h => by omega⟩
  | k + 1 => by
    rw [sayK]
    rcases sayK_ok (l := l) k with ⟨h1, h2⟩ | ⟨h1, j, h2, h3⟩
    · by_cases e : gk l k = (k : Int)
      · refine .inl ⟨by rw [if_neg (fun h => h.2 e), h1], fun j hj => ?_⟩
        by_cases hjk : j = k
        · subst hjk; exact e
        · exact h2 j (by omega)
      · exact .inr ⟨by rw [if_pos ⟨h1, e⟩], k, by omega, e⟩
    · exact .inr ⟨by rw [if_neg (by rw [h1]; simp), h1], j, by omega, h3⟩
def say0 (l : List IP) (h : List Int) : Int := if (parOf l).2 = 0 ∧ l.length ≠ h.length then 3 else (parOf l).2
/-- What Cost answers, by what is said. -/
theorem coB_say {l : List IP} {h g : List Int} (h0 : brR h g = 0) :
    (sayK l (say0 l h) l.length ≠ 0 → coB l h g = (0, sayK l (say0 l h) l.length)) ∧
    (sayK l (say0 l h) l.length = 0 → (parOf l).2 = 0 ∧ l.length = h.length ∧ (∀ k, k < l.length → gk l k = (k : Int)) ∧ coB l h g = (coG l g (coA l h l.length) g.length, 0)) := by
  have hb : coB l h g = if (parOf l).2 ≠ 0 then (0, (parOf l).2) else if l.length ≠ h.length then (0, 3) else if keysUp l = true then (coG l g (coA l h l.length) g.length, 0) else (0, 3) := by
    rw [coB, if_neg (fun e => e h0)]
  by_cases p : (parOf l).2 = 0
  · rw [if_neg (fun e => e p)] at hb
    by_cases q : l.length = h.length
    · have s0 : say0 l h = 0 := by rw [say0, if_neg (fun e => e.2 q), p]
      rw [if_neg (fun e => e q)] at hb
      rw [s0, hb]
      rcases sayK_ok (l := l) l.length with ⟨a, b⟩ | ⟨a, j, b, c⟩
      · rw [a, if_pos (keysUp_iff.2 b)]
        exact ⟨fun e => absurd rfl e, fun _ => ⟨p, q, b, rfl⟩⟩
      · rw [a, if_neg (fun e => c (keysUp_iff.1 e j b))]
        exact ⟨fun _ => rfl, fun e => by omega⟩
    · have s0 : say0 l h = 3 := by rw [say0, if_pos ⟨p, q⟩]
      rw [if_pos q] at hb
      rw [s0, hb, sayK_bad (by decide)]
      exact ⟨fun _ => rfl, fun e => by omega⟩
  · have s0 : say0 l h = (parOf l).2 := by rw [say0, if_neg (fun e => p e.1)]
    rw [if_pos p] at hb
    rw [s0, hb, sayK_bad p]
    exact ⟨fun _ => rfl, fun e => absurd e p⟩
theorem ask_rg {l : List IP} {t : T} (hs : t.spots 0 = l) (hk : ∀ k, k < l.length → gk l k = (k : Int)) : Rg t 0 l.length := by
  have hsz : t.size = l.length := by rw [← T.spots_len t 0, hs]
  have hd : Dp (gv l) t 0 (0 + t.size) 0 := Dp.of t 0 0 (fun j hj => by
    have hjl : j < l.length := by rw [← hs]; exact hj
    have e : (t.spots 0)[j] = l[j] := by simp only [hs]
    rw [e]
    have h1 := hk j hjl
    refine ⟨?_, ?_⟩
    · rw [gk_eq l j hjl] at h1
      rw [h1]; simp
    · rw [Nat.zero_add, gv_eq l j hjl])
  rw [Nat.zero_add, hsz] at hd
  exact hd.rg
def Bs1Rel (h g : Nat → Int) (n gb : Nat) (w0 : World) (iv : Value) (wr : World) : Prop := ∃ i : Nat, i ≤ n ∧ iv = .int .i64 (i : Int) ∧ KM h g wr gb ∧ Kp w0 wr
def Bs2Rel (h g : Nat → Int) (n i gb : Nat) (w0 : World) (jv : Value) (wr : World) : Prop := ∃ j : Nat, i + 1 ≤ j ∧ j ≤ n + 1 ∧ jv = .int .i64 (j : Int) ∧ KM h g wr gb ∧ Kp w0 wr
def Bs3Rel (l : List IP) (S0 : Int) (w0 : World) (sv iv : Value) (wr : World) : Prop := ∃ k : Nat, k ≤ l.length ∧ iv = .int .i64 (k : Int) ∧ sv = .int .i64 (sayK l S0 k) ∧ Kp w0 wr
set_option maxRecDepth 100000 in
set_option maxHeartbeats 8000000 in
theorem bestSays_walk (l : List IP) (hits gaps : List Int) (t v u : Value) (w : World) (hl : RD w ePair t l) (hr : RD w eInt v hits) (hu : RD w eInt u gaps) : Calls Try.prog 6 #[t, v, u] w (Ret (.bool true) w) := by
  have H1 := hide (cost_any l hits gaps t v u w hl hr hu)
  have H2 := hide (fun W (k : Kp w W) => bTree_any hits gaps v u W (hr.kp k) (hu.kp k))
  have H3 := hide (fun W (k : Kp w W) => bRoots_any hits gaps v u W (hr.kp k) (hu.kp k))
  have H4 := hide (fun W (k : Kp w W) => bestRight_any hits gaps v u W (hr.kp k) (hu.kp k))
  have HL := hide hl
  have HR := hide hr
  have HU := hide hu
  obtain ⟨A0, c0, rfl, _, _⟩ := hl.shape
  obtain ⟨A1, c1, rfl, _, _⟩ := hr.shape
  obtain ⟨A2, c2, rfl, _, _⟩ := hu.shape
  clear hl hr hu
  by_cases he : brR hits gaps = 0
  · obtain ⟨b1, b2, b3, b4⟩ := brR_ok he
    have e2 : trB hits gaps = (spB (bt (gD hits) (gD gaps)) hits.length 0 hits.length 0, bc (gD hits) (gD gaps) 0 hits.length, 0) := by rw [trB, if_pos he]
    have e3 : rtB hits gaps = (rowsB (bt (gD hits) (gD gaps)) hits.length, 0) := by rw [rtB, if_pos he]
    rw [e2] at H2
    rw [e3] at H3
    rw [he] at H4
    have HSAY := hide (coB_say (l := l) (g := gaps) he)
    have HLA := hide (fun gb W i j (k : Kp w W) h1 h2 h3 => leastAsked_any hits gaps b1 b2 b3 b4 gb _ _ 20 i j W h1 h2 h3 (HR.out.kp k) (HU.out.kp k))
    have HBT := hide (fun gb W (k : Kp w W) h3 => bestTree_any hits gaps b1 b2 b3 b4 gb _ _ hits.length 0 hits.length W (by omega) (by omega) (Nat.le_refl _) (HR.out.kp k) (HU.out.kp k) h3)
    have hbts := btT_spots (bt_tops b3 b4 hits.length) hits.length 0 hits.length 0 (Nat.le_refl _)
    have hsl := spB_len (bt_tops b3 b4 hits.length) hits.length 0 hits.length 0 (by omega) (by omega) (Nat.le_refl _)
    have hbsz : (btT (bt (gD hits) (gD gaps)) hits.length 0 hits.length).size = hits.length := by rw [← T.spots_len _ 0, hbts, hsl]; omega
    have HASK := hide (fun W T p b (k : Kp w W) h1 h2 h3 h4 => asked_any hits gaps b3 b4 b2 _ _ T 0 b 0 p W h1 h2 (by omega) h3 (HR.out.kp k) (HU.out.kp k) h4)
    obtain ⟨⟨C, CE⟩, hC⟩ : ∃ x, x = coB l hits gaps := ⟨_, rfl⟩
    rw [← hC] at H1 HSAY
    obtain ⟨h, hh⟩ : ∃ x, x = gD hits := ⟨_, rfl⟩
    obtain ⟨g, hg⟩ : ∃ x, x = gD gaps := ⟨_, rfl⟩
    rw [← hh, ← hg] at H2 H3 HLA HBT hbts hbsz HASK
    obtain ⟨SP, hSP⟩ : ∃ x, x = spB (bt h g) hits.length 0 hits.length 0 := ⟨_, rfl⟩
    obtain ⟨BT, hBT⟩ : ∃ x, x = btT (bt h g) hits.length 0 hits.length := ⟨_, rfl⟩
    rw [← hSP] at H2 hbts
    rw [← hBT] at hbts hbsz
    have HBTS := hide hbts
    have HBSZ : Hid ((0 : Int) + BT.size ≤ 1073741824) := hide (by rw [hbsz]; omega)
    have HBE := hide hBT
    have HB2 := hide b2
    have HHH := hide hh
    have HHG := hide hg
    clear e2 e3 he hC hsl hbsz hSP hBT hbts hh hg b2 b3 b4
    go_enter Try.func6, Try.ntmps6
    go_wp2_with fail
    with_reducible refine H1.out.mono ?_
    rintro e w1 ⟨rfl, k1⟩
    go_wp2_with fail
    with_reducible refine (H2.out _ k1).mono ?_
    rintro e w2 ⟨v2, rfl, hr2, k2⟩
    obtain ⟨A3, c3, rfl, _, _⟩ := hr2.shape
    have k12 := k1.trans k2
    have HR2 := hide hr2
    clear hr2
    go_wp2_with fail
    with_reducible refine (H3.out _ k12).mono ?_
    rintro e w3 ⟨v3, rfl, hr3, k3⟩
    obtain ⟨A4, c4, rfl, _, _⟩ := hr3.shape
    have k13 := k12.trans k3
    have hrl := rowsS_len (T := bt h g) (n := hits.length)
    rw [hrl] at hr3
    simp only [hrl]
    have HR3 := hide hr3
    clear hr3 hrl
    go_wp2_with fail
    with_reducible refine (H4.out _ k13).mono ?_
    rintro e w4 ⟨rfl, hb4⟩
    have k14 := k13.trans (Kp.of hb4)
    have HR24 := hide (HR2.out.kp (k3.trans (Kp.of hb4)))
    have HR34 := hide (HR3.out.kp (Kp.of hb4))
    have HK4 := hide k14
    have HM5 := hide (KM.made h g w4)
    obtain ⟨w5, hw5⟩ : ∃ w5, w5 = w4.alloc (.map #[] 0) := ⟨_, rfl⟩
    have HK5 : Hid (Kp w4 w5) := hide (by rw [hw5]; exact (Kp.refl _).alloc)
    obtain ⟨gb, hgb⟩ : ∃ gb, gb = w4.heap.size := ⟨_, rfl⟩
    rw [← hw5, ← hgb] at HM5
    have HGB := hide hgb
    have hmm := @run_makeMap Try.prog
    clear k1 k2 k3 k12 k13 k14 hb4 H1 H2 H3 H4 HR2 HR3
    go_wp2_with fail
    clear hmm
    rw [← hw5, ← hgb]
    clear hw5 hgb
    refine (HLA.out gb w5 0 hits.length (HK4.out.trans HK5.out) (by omega) (Nat.zero_le _) (Nat.le_refl _) HM5.out).mono ?_
    rintro e w6 ⟨rfl, hm6, hk6⟩
    have HK6 : Hid (Kp w4 w6) := hide (hk6.kp HK5.out (fun i hi => by have := HGB.out; omega))
    have HM6 := hide hm6
    clear hm6 hk6
    go_wp2_with fail
    refine (HBT.out gb w6 (HK4.out.trans HK6.out) HM6.out).mono ?_
    rintro e w7 ⟨p7, rfl, ht7, hm7, hk7⟩
    rw [← HBE.out] at ht7
    have HT7 := hide ht7
    have HM7 := hide hm7
    have HK7 : Hid (Kp w4 w7) := hide (hk7.kp HK6.out (fun i hi => by have := HGB.out; omega))
    clear ht7 hm7 hk7
    go_wp2_with fail
    with_reducible refine (spots_any BT p7 0 _ HT7.out (by omega) HBSZ.out).mono ?_
    rintro e w8 ⟨v8, rfl, ho8, hb8⟩
    have HR8 := hide ho8.rd
    have HK8 := hide (HK7.out.trans (Kp.of hb8))
    have HM8 := hide (HM7.out.kp (Kp.of hb8))
    clear ho8 hb8
    go_wp2_with fail
    refine (sameSpots_to SP (BT.spots 0) true _ _ _ (HR24.out.kp HK8.out) HR8.out (by rw [HBTS.out]; simp)).mono ?_
    rintro e w9 ⟨rfl, hb9⟩
    have HK9 := hide (HK8.out.trans (Kp.of hb9))
    have HM9 := hide (HM8.out.kp (Kp.of hb9))
    have d1 : (bc h g 0 hits.length != bc h g 0 hits.length) = false := by simp
    clear hb9
    go_wp2_with fail
    clear d1
    go_loopw [125] (Bs1Rel h g hits.length gb w4) (fun i _ => hits.length - (intOf i).toNat)
    case atStart => exact ⟨0, by omega, rfl, HM9.out, HK9.out⟩
    case round =>
      obtain ⟨i, hi, rfl, hm, hk⟩ := hrel
      by_cases hlt : i < hits.length
      · have d1 : decide (i < hits.length) = true := by simp [hlt]
        have hir : i < (rowsB (bt h g) hits.length).length := by rw [rowsS_len]; exact hlt
        obtain ⟨br, or, ur, rfl, _, cr, hur⟩ := HR34.out.at_ (k := i) hir
        rw [rowsS_at hir] at hur
        obtain ⟨A6, c6, rfl, hc6, hm6⟩ := hur.shape
        have hrb := rowB_len (T := bt h g) (n := hits.length) (k := i)
        obtain ⟨RB, hRB⟩ : ∃ x, x = rowB (bt h g) hits.length i := ⟨_, rfl⟩
        have HRB : Hid (∀ q (hq : q < RB.length), RB[q] = bt h g i (i + 1 + q)) := hide (by subst hRB; exact fun q hq => rowB_at hq)
        rw [← hRB] at hur cr hrb hc6
        obtain ⟨q, hq⟩ : ∃ q, q = RB.length := ⟨_, rfl⟩
        rw [← hq] at hrb hur cr hc6
        have cr1 := hk.cell cr
        have s1 : IntKind.i64.wrap ((hits.length : Int) - (i : Int)) = (q : Int) := by rw [IntWalk.i64_in _ (by omega)]; omega
        obtain ⟨i1, hi1⟩ : ∃ i1, i1 = i + 1 := ⟨_, rfl⟩
        have s2 : IntKind.i64.wrap ((i : Int) + 1) = (i1 : Int) := by rw [IntWalk.i64_in _ (by omega)]; omega
        have d2 : ((q : Int) != (q : Int)) = false := by simp
        have HCR := hide cr
        have HUR := hide hur
        have HQ := hide hq
        have HQ2 := hide hrb
        have HI1 := hide hi1
        have HM := hide hm
        have HK := hide hk
        clear hur hq hi1 hm hk hrb cr hRB
        go_wp2_with fail
        clear d2 s2 cr1
        go_loopw [19] (Bs2Rel h g hits.length i gb w4) (fun j _ => hits.length + 1 - (intOf j).toNat)
        case atStart => exact ⟨i1, by have := HI1.out; omega, by have := HI1.out; omega, rfl, HM.out, HK.out⟩
        case round =>
          obtain ⟨j, hj1, hj2, rfl, hm, hk⟩ := hrel
          by_cases hjn : j ≤ hits.length
          · have d3 : decide (j ≤ hits.length) = true := by simp [hjn]
            have hij : i < j := by omega
            have HC := hide (HLA.out gb wr i j (HK4.out.trans hk) (by omega) (by omega) hjn hm)
            obtain ⟨r, hr⟩ : ∃ r, r = j - i - 1 := ⟨_, rfl⟩
            have hrq : r < q := by have := HQ2.out; omega
            have hrq2 : r < RB.length := by have := HQ.out; omega
            obtain ⟨bq, oq, rfl, _, cq⟩ := HUR.out.int hrq2
            rw [HRB.out r hrq2, show i + 1 + r = j by omega] at cq
            obtain ⟨B, hB⟩ : ∃ x, x = bt h g i j := ⟨_, rfl⟩
            have HLT : Hid (laT h g i j = B) := hide (by rw [laT, if_neg (by omega), hB])
            rw [← hB] at cq
            obtain ⟨d, hd⟩ : ∃ d, d = j - i := ⟨_, rfl⟩
            have s3 : IntKind.i64.wrap ((j : Int) - (i : Int)) = (d : Int) := by rw [IntWalk.i64_in _ (by omega)]; omega
            have s4 : IntKind.i64.wrap ((d : Int) - 1) = (r : Int) := by rw [IntWalk.i64_in _ (by omega)]; omega
            obtain ⟨j1, hj3⟩ : ∃ j1, j1 = j + 1 := ⟨_, rfl⟩
            have s5 : IntKind.i64.wrap ((j : Int) + 1) = (j1 : Int) := by rw [IntWalk.i64_in _ (by omega)]; omega
            have d4 : (B != B) = false := by simp
            have HJ3 := hide hj3
            have HCQ := hide cq
            have HK2 := hide hk
            clear hd hr hm hk hB hj3 cq
            go_wp2_with fail
            with_reducible refine HC.out.mono ?_
            rintro e wx ⟨rfl, hmx, hkx⟩
            rw [HLT.out]
            have HKX : Hid (Kp w4 wx) := hide (hkx.kp HK2.out (fun i hi => by have := HGB.out; omega))
            have HMX := hide hmx
            have x1 := HKX.out.cell HCQ.out
            have x2 := HKX.out.cell HCR.out
            clear hmx hkx
            go_wp2
            go_roundw
            case rel => exact ⟨j1, by have := HJ3.out; omega, by have := HJ3.out; omega, rfl, HMX.out, HKX.out⟩
            case measure => have := HJ3.out; simp [intOf]; omega
          · have d3 : decide (j ≤ hits.length) = false := by simp [hjn]
            have HM := hide hm
            have HK := hide hk
            have s2 : IntKind.i64.wrap ((i : Int) + 1) = (i1 : Int) := by have := HI1.out; rw [IntWalk.i64_in _ (by omega)]; omega
            clear hm hk
            go_wp2
            go_roundw
            case rel => exact ⟨i1, by have := HI1.out; omega, rfl, HM.out, HK.out⟩
            case measure => have := HI1.out; simp [intOf]; omega
      · have d1 : decide (i < hits.length) = false := by simp [hlt]
        have HK := hide hk
        clear hm hk
        go_wp2_with fail
        with_reducible refine (spotsRight_any l _ _ (HL.out.kp (HK4.out.trans HK.out))).mono ?_
        rintro e wa ⟨rfl, hba⟩
        have HKA := hide (HK4.out.trans (HK.out.trans (Kp.of hba)))
        have HS0 : Hid (((parOf l).2 = 0 ∧ l.length ≠ hits.length → say0 l hits = 3) ∧ (¬ ((parOf l).2 = 0 ∧ l.length ≠ hits.length) → say0 l hits = (parOf l).2)) := hide ⟨fun h => by rw [say0, if_pos h], fun h => by rw [say0, if_neg h]⟩
        have hpl : (parOf l).2 = 0 → l.length ≤ 200 := fun h => (parOf_len l h).1
        obtain ⟨P, hP⟩ : ∃ x, x = (parOf l).2 := ⟨_, rfl⟩
        obtain ⟨S0, hS0⟩ : ∃ x, x = say0 l hits := ⟨_, rfl⟩
        rw [← hP, ← hS0] at HS0
        rw [← hS0, ← hP] at HSAY
        rw [← hP] at hpl
        simp only [← hP]
        have HPL := hide hpl
        have HPP := hide hP
        clear hba HK hP hS0 hpl d1
        by_cases p : P = 0
        · have d1 : (P == 0) = true := by simp [p]
          by_cases q : l.length = hits.length
          · have d2 : ((l.length : Int) != (hits.length : Int)) = false := by simp [q]
            have e9 := HS0.out.2 (fun h => h.2 q)
            clear p q HS0
            go_wp2_with fail
            go_loopw [22, 181] (Bs3Rel l S0 w) (fun _ k _ => l.length - (intOf k).toNat)
            case atStart => exact ⟨0, by omega, rfl, by rw [sayK, e9], HKA.out⟩
            case round =>
              obtain ⟨k, hk, rfl, rfl, hkw⟩ := hrel
              by_cases hlt : k < l.length
              · have d1 : decide (k < l.length) = true := by simp [hlt]
                obtain ⟨b, o, rfl, _, x0, x1⟩ := (HL.out.kp hkw).pair hlt
                rw [← gk_eq l k hlt] at x0
                obtain ⟨k1, hk1⟩ : ∃ k1, k1 = k + 1 := ⟨_, rfl⟩
                have s1 : IntKind.i64.wrap ((k : Int) + 1) = (k1 : Int) := by rw [IntWalk.i64_in _ (by omega)]; omega
                have hst : sayK l S0 k1 = if sayK l S0 k = 0 ∧ gk l k ≠ (k : Int) then 3 else sayK l S0 k := by rw [hk1, sayK]
                obtain ⟨K, hK⟩ : ∃ x, x = gk l k := ⟨_, rfl⟩
                obtain ⟨D, hD⟩ : ∃ x, x = (l[k]).2 := ⟨_, rfl⟩
                obtain ⟨S, hS⟩ : ∃ x, x = sayK l S0 k := ⟨_, rfl⟩
                rw [← hK] at x0 hst
                rw [← hD] at x1
                rw [← hS] at hst ⊢
                have HK1 := hide hk1
                have HKW := hide hkw
                clear hkw hk1 hK hD hS
                by_cases p : S = 0
                · have d2 : (S == 0) = true := by simp [p]
                  by_cases q : K = (k : Int)
                  · have d3 : (K != (k : Int)) = false := by simp [q]
                    rw [if_neg (fun h => h.2 q)] at hst
                    have HST := hide hst
                    clear p q hst
                    go_wp2
                    go_roundw
                    case rel => exact ⟨k1, by have := HK1.out; omega, rfl, by rw [HST.out], HKW.out.alloc⟩
                    case measure => have := HK1.out; simp [intOf]; omega
                  · have d3 : (K != (k : Int)) = true := by simp [q]
                    rw [if_pos ⟨p, q⟩] at hst
                    have HST := hide hst
                    clear p q hst
                    go_wp2
                    go_roundw
                    case rel => exact ⟨k1, by have := HK1.out; omega, rfl, by rw [HST.out], HKW.out.alloc⟩
                    case measure => have := HK1.out; simp [intOf]; omega
                · have d2 : (S == 0) = false := by simp [p]
                  rw [if_neg (fun h => p h.1)] at hst
                  have HST := hide hst
                  clear p hst
                  go_wp2
                  go_roundw
                  case rel => exact ⟨k1, by have := HK1.out; omega, rfl, by rw [HST.out], HKW.out.alloc⟩
                  case measure => have := HK1.out; simp [intOf]; omega
              · obtain rfl : k = l.length := by omega
                have d1 : decide (l.length < l.length) = false := by simp
                have HKW := hide hkw
                obtain ⟨S, hS⟩ : ∃ x, x = sayK l S0 l.length := ⟨_, rfl⟩
                rw [← hS] at HSAY ⊢
                clear hkw hS
                by_cases p : S = 0
                · obtain ⟨hp0, hle, hkeys, e8⟩ := HSAY.out.2 p
                  simp only [Prod.mk.injEq] at e8
                  obtain ⟨e8, rfl⟩ := e8
                  have hl2 := HPL.out hp0
                  have hp1 : (parOf l).2 = 0 := by rw [← HPP.out]; exact hp0
                  have hsp := (treeOf_spots l hp1).1
                  have hgv : ∀ k, k < l.length → 0 ≤ gv l k := fun k hk => by rw [gv_eq l k hk]; exact (gv_bound l hp1 k hk).1
                  have hac := ask_cost (h := hits) (g := gaps) hsp hkeys hgv
                  have hrg := ask_rg hsp hkeys
                  have hsz : (treeOf l 0).1.size = l.length := by rw [← T.spots_len _ 0, hsp]
                  rw [← HHH.out, ← HHG.out] at hac
                  rw [HB2.out, ← hle] at e8
                  rw [← e8] at hac
                  have HTO := hide (fun W (hk : Kp w W) => treeOf_any 200 l _ 0 W hl2 (by omega) (by omega) (by omega) (HL.out.kp hk))
                  obtain ⟨TT, hTT⟩ : ∃ x, x = treeOf l 0 := ⟨_, rfl⟩
                  rw [← hTT] at hac hrg hsz HTO
                  obtain ⟨T1, T2⟩ := TT
                  have HAC := hide hac
                  have HRG := hide hrg
                  have HT1 : Hid ((0 : Int) + T1.size ≤ 999) := hide (by simp only at hsz; rw [hsz]; omega)
                  have HLE := hide hle
                  have d2 : (S != 0) = false := by simp [p]
                  have d5 : (C == C) = true := by simp
                  clear p hp0 hle hkeys e8 hl2 hp1 hsp hgv hac hrg hsz hTT
                  go_wp2_with fail
                  refine (HTO.out _ HKW.out).mono ?_
                  rintro e wy ⟨py, rfl, hty, hby⟩
                  have HKY := hide (HKW.out.trans (Kp.of hby))
                  have HTY := hide hty
                  clear hty hby
                  go_wp2_with fail
                  refine (HASK.out _ T1 py l.length HKY.out HRG.out (by rw [HLE.out]; omega) HT1.out HTY.out).mono ?_
                  rintro e wz ⟨rfl, nz, rfl⟩
                  rw [show askF h g T1 0 0 = C from HAC.out]
                  go_wp2
                  go_ret
                  exact ⟨rfl, (HKY.out.drewN).bel⟩
                · have e9 := HSAY.out.1 p
                  simp only [Prod.mk.injEq] at e9
                  obtain ⟨rfl, rfl⟩ := e9
                  have d2 : (CE != 0) = true := by simpa using p
                  have d3 : (CE == CE) = true := by simp
                  clear p
                  go_wp2
                  go_ret
                  exact ⟨rfl, HKW.out.bel⟩
          · have d2 : ((l.length : Int) != (hits.length : Int)) = true := by simp; omega
            have e9 := HS0.out.1 ⟨p, q⟩
            clear p q HS0
            go_wp2_with fail
            go_loopw [22, 181] (Bs3Rel l S0 w) (fun _ k _ => l.length - (intOf k).toNat)
            case atStart => exact ⟨0, by omega, rfl, by rw [sayK, e9], HKA.out⟩
            case round =>
              obtain ⟨k, hk, rfl, rfl, hkw⟩ := hrel
              by_cases hlt : k < l.length
              · have d1 : decide (k < l.length) = true := by simp [hlt]
                obtain ⟨b, o, rfl, _, x0, x1⟩ := (HL.out.kp hkw).pair hlt
                rw [← gk_eq l k hlt] at x0
                obtain ⟨k1, hk1⟩ : ∃ k1, k1 = k + 1 := ⟨_, rfl⟩
                have s1 : IntKind.i64.wrap ((k : Int) + 1) = (k1 : Int) := by rw [IntWalk.i64_in _ (by omega)]; omega
                have hst : sayK l S0 k1 = if sayK l S0 k = 0 ∧ gk l k ≠ (k : Int) then 3 else sayK l S0 k := by rw [hk1, sayK]
                obtain ⟨K, hK⟩ : ∃ x, x = gk l k := ⟨_, rfl⟩
                obtain ⟨D, hD⟩ : ∃ x, x = (l[k]).2 := ⟨_, rfl⟩
                obtain ⟨S, hS⟩ : ∃ x, x = sayK l S0 k := ⟨_, rfl⟩
                rw [← hK] at x0 hst
                rw [← hD] at x1
                rw [← hS] at hst ⊢
                have HK1 := hide hk1
                have HKW := hide hkw
                clear hkw hk1 hK hD hS
                by_cases p : S = 0
                · have d2 : (S == 0) = true := by simp [p]
                  by_cases q : K = (k : Int)
                  · have d3 : (K != (k : Int)) = false := by simp [q]
                    rw [if_neg (fun h => h.2 q)] at hst
                    have HST := hide hst
                    clear p q hst
                    go_wp2
                    go_roundw
                    case rel => exact ⟨k1, by have := HK1.out; omega, rfl, by rw [HST.out], HKW.out.alloc⟩
                    case measure => have := HK1.out; simp [intOf]; omega
                  · have d3 : (K != (k : Int)) = true := by simp [q]
                    rw [if_pos ⟨p, q⟩] at hst
                    have HST := hide hst
                    clear p q hst
                    go_wp2
                    go_roundw
                    case rel => exact ⟨k1, by have := HK1.out; omega, rfl, by rw [HST.out], HKW.out.alloc⟩
                    case measure => have := HK1.out; simp [intOf]; omega
                · have d2 : (S == 0) = false := by simp [p]
                  rw [if_neg (fun h => p h.1)] at hst
                  have HST := hide hst
                  clear p hst
                  go_wp2
                  go_roundw
                  case rel => exact ⟨k1, by have := HK1.out; omega, rfl, by rw [HST.out], HKW.out.alloc⟩
                  case measure => have := HK1.out; simp [intOf]; omega
              · obtain rfl : k = l.length := by omega
                have d1 : decide (l.length < l.length) = false := by simp
                have HKW := hide hkw
                obtain ⟨S, hS⟩ : ∃ x, x = sayK l S0 l.length := ⟨_, rfl⟩
                rw [← hS] at HSAY ⊢
                clear hkw hS
                by_cases p : S = 0
                · obtain ⟨hp0, hle, hkeys, e8⟩ := HSAY.out.2 p
                  simp only [Prod.mk.injEq] at e8
                  obtain ⟨e8, rfl⟩ := e8
                  have hl2 := HPL.out hp0
                  have hp1 : (parOf l).2 = 0 := by rw [← HPP.out]; exact hp0
                  have hsp := (treeOf_spots l hp1).1
                  have hgv : ∀ k, k < l.length → 0 ≤ gv l k := fun k hk => by rw [gv_eq l k hk]; exact (gv_bound l hp1 k hk).1
                  have hac := ask_cost (h := hits) (g := gaps) hsp hkeys hgv
                  have hrg := ask_rg hsp hkeys
                  have hsz : (treeOf l 0).1.size = l.length := by rw [← T.spots_len _ 0, hsp]
                  rw [← HHH.out, ← HHG.out] at hac
                  rw [HB2.out, ← hle] at e8
                  rw [← e8] at hac
                  have HTO := hide (fun W (hk : Kp w W) => treeOf_any 200 l _ 0 W hl2 (by omega) (by omega) (by omega) (HL.out.kp hk))
                  obtain ⟨TT, hTT⟩ : ∃ x, x = treeOf l 0 := ⟨_, rfl⟩
                  rw [← hTT] at hac hrg hsz HTO
                  obtain ⟨T1, T2⟩ := TT
                  have HAC := hide hac
                  have HRG := hide hrg
                  have HT1 : Hid ((0 : Int) + T1.size ≤ 999) := hide (by simp only at hsz; rw [hsz]; omega)
                  have HLE := hide hle
                  have d2 : (S != 0) = false := by simp [p]
                  have d5 : (C == C) = true := by simp
                  clear p hp0 hle hkeys e8 hl2 hp1 hsp hgv hac hrg hsz hTT
                  go_wp2_with fail
                  refine (HTO.out _ HKW.out).mono ?_
                  rintro e wy ⟨py, rfl, hty, hby⟩
                  have HKY := hide (HKW.out.trans (Kp.of hby))
                  have HTY := hide hty
                  clear hty hby
                  go_wp2_with fail
                  refine (HASK.out _ T1 py l.length HKY.out HRG.out (by rw [HLE.out]; omega) HT1.out HTY.out).mono ?_
                  rintro e wz ⟨rfl, nz, rfl⟩
                  rw [show askF h g T1 0 0 = C from HAC.out]
                  go_wp2
                  go_ret
                  exact ⟨rfl, (HKY.out.drewN).bel⟩
                · have e9 := HSAY.out.1 p
                  simp only [Prod.mk.injEq] at e9
                  obtain ⟨rfl, rfl⟩ := e9
                  have d2 : (CE != 0) = true := by simpa using p
                  have d3 : (CE == CE) = true := by simp
                  clear p
                  go_wp2
                  go_ret
                  exact ⟨rfl, HKW.out.bel⟩
        · have d1 : (P == 0) = false := by simp [p]
          have e9 := HS0.out.2 (fun h => p h.1)
          clear p HS0
          go_wp2_with fail
          go_loopw [22, 181] (Bs3Rel l S0 w) (fun _ k _ => l.length - (intOf k).toNat)
          case atStart => exact ⟨0, by omega, rfl, by rw [sayK, e9], HKA.out⟩
          case round =>
            obtain ⟨k, hk, rfl, rfl, hkw⟩ := hrel
            by_cases hlt : k < l.length
            · have d1 : decide (k < l.length) = true := by simp [hlt]
              obtain ⟨b, o, rfl, _, x0, x1⟩ := (HL.out.kp hkw).pair hlt
              rw [← gk_eq l k hlt] at x0
              obtain ⟨k1, hk1⟩ : ∃ k1, k1 = k + 1 := ⟨_, rfl⟩
              have s1 : IntKind.i64.wrap ((k : Int) + 1) = (k1 : Int) := by rw [IntWalk.i64_in _ (by omega)]; omega
              have hst : sayK l S0 k1 = if sayK l S0 k = 0 ∧ gk l k ≠ (k : Int) then 3 else sayK l S0 k := by rw [hk1, sayK]
              obtain ⟨K, hK⟩ : ∃ x, x = gk l k := ⟨_, rfl⟩
              obtain ⟨D, hD⟩ : ∃ x, x = (l[k]).2 := ⟨_, rfl⟩
              obtain ⟨S, hS⟩ : ∃ x, x = sayK l S0 k := ⟨_, rfl⟩
              rw [← hK] at x0 hst
              rw [← hD] at x1
              rw [← hS] at hst ⊢
              have HK1 := hide hk1
              have HKW := hide hkw
              clear hkw hk1 hK hD hS
              by_cases p : S = 0
              · have d2 : (S == 0) = true := by simp [p]
                by_cases q : K = (k : Int)
                · have d3 : (K != (k : Int)) = false := by simp [q]
                  rw [if_neg (fun h => h.2 q)] at hst
                  have HST := hide hst
                  clear p q hst
                  go_wp2
                  go_roundw
                  case rel => exact ⟨k1, by have := HK1.out; omega, rfl, by rw [HST.out], HKW.out.alloc⟩
                  case measure => have := HK1.out; simp [intOf]; omega
                · have d3 : (K != (k : Int)) = true := by simp [q]
                  rw [if_pos ⟨p, q⟩] at hst
                  have HST := hide hst
                  clear p q hst
                  go_wp2
                  go_roundw
                  case rel => exact ⟨k1, by have := HK1.out; omega, rfl, by rw [HST.out], HKW.out.alloc⟩
                  case measure => have := HK1.out; simp [intOf]; omega
              · have d2 : (S == 0) = false := by simp [p]
                rw [if_neg (fun h => p h.1)] at hst
                have HST := hide hst
                clear p hst
                go_wp2
                go_roundw
                case rel => exact ⟨k1, by have := HK1.out; omega, rfl, by rw [HST.out], HKW.out.alloc⟩
                case measure => have := HK1.out; simp [intOf]; omega
            · obtain rfl : k = l.length := by omega
              have d1 : decide (l.length < l.length) = false := by simp
              have HKW := hide hkw
              obtain ⟨S, hS⟩ : ∃ x, x = sayK l S0 l.length := ⟨_, rfl⟩
              rw [← hS] at HSAY ⊢
              clear hkw hS
              by_cases p : S = 0
              · obtain ⟨hp0, hle, hkeys, e8⟩ := HSAY.out.2 p
                simp only [Prod.mk.injEq] at e8
                obtain ⟨e8, rfl⟩ := e8
                have hl2 := HPL.out hp0
                have hp1 : (parOf l).2 = 0 := by rw [← HPP.out]; exact hp0
                have hsp := (treeOf_spots l hp1).1
                have hgv : ∀ k, k < l.length → 0 ≤ gv l k := fun k hk => by rw [gv_eq l k hk]; exact (gv_bound l hp1 k hk).1
                have hac := ask_cost (h := hits) (g := gaps) hsp hkeys hgv
                have hrg := ask_rg hsp hkeys
                have hsz : (treeOf l 0).1.size = l.length := by rw [← T.spots_len _ 0, hsp]
                rw [← HHH.out, ← HHG.out] at hac
                rw [HB2.out, ← hle] at e8
                rw [← e8] at hac
                have HTO := hide (fun W (hk : Kp w W) => treeOf_any 200 l _ 0 W hl2 (by omega) (by omega) (by omega) (HL.out.kp hk))
                obtain ⟨TT, hTT⟩ : ∃ x, x = treeOf l 0 := ⟨_, rfl⟩
                rw [← hTT] at hac hrg hsz HTO
                obtain ⟨T1, T2⟩ := TT
                have HAC := hide hac
                have HRG := hide hrg
                have HT1 : Hid ((0 : Int) + T1.size ≤ 999) := hide (by simp only at hsz; rw [hsz]; omega)
                have HLE := hide hle
                have d2 : (S != 0) = false := by simp [p]
                have d5 : (C == C) = true := by simp
                clear p hp0 hle hkeys e8 hl2 hp1 hsp hgv hac hrg hsz hTT
                go_wp2_with fail
                refine (HTO.out _ HKW.out).mono ?_
                rintro e wy ⟨py, rfl, hty, hby⟩
                have HKY := hide (HKW.out.trans (Kp.of hby))
                have HTY := hide hty
                clear hty hby
                go_wp2_with fail
                refine (HASK.out _ T1 py l.length HKY.out HRG.out (by rw [HLE.out]; omega) HT1.out HTY.out).mono ?_
                rintro e wz ⟨rfl, nz, rfl⟩
                rw [show askF h g T1 0 0 = C from HAC.out]
                go_wp2
                go_ret
                exact ⟨rfl, (HKY.out.drewN).bel⟩
              · have e9 := HSAY.out.1 p
                simp only [Prod.mk.injEq] at e9
                obtain ⟨rfl, rfl⟩ := e9
                have d2 : (CE != 0) = true := by simpa using p
                have d3 : (CE == CE) = true := by simp
                clear p
                go_wp2
                go_ret
                exact ⟨rfl, HKW.out.bel⟩
  · have e1 : coB l hits gaps = (0, brR hits gaps) := by rw [coB, if_pos he]
    have e2 : trB hits gaps = ([], 0, brR hits gaps) := by rw [trB, if_neg he]
    have e3 : rtB hits gaps = ([], brR hits gaps) := by rw [rtB, if_neg he]
    rw [e1] at H1
    rw [e2] at H2
    rw [e3] at H3
    obtain ⟨E, hE⟩ : ∃ x, x = brR hits gaps := ⟨_, rfl⟩
    rw [← hE] at H1 H2 H3 H4 he
    have d1 : (E != 0) = true := by simpa using he
    have d2 : (E == E) = true := by simp
    clear e1 e2 e3 hE he
    go_enter Try.func6, Try.ntmps6
    go_wp2_with fail
    with_reducible refine H1.out.mono ?_
    rintro e w1 ⟨rfl, k1⟩
    go_wp2_with fail
    with_reducible refine (H2.out _ k1).mono ?_
    rintro e w2 ⟨v2, rfl, hr2, k2⟩
    obtain ⟨A3, c3, rfl, _, _⟩ := hr2.shape
    have k12 := k1.trans k2
    clear hr2
    go_wp2_with fail
    with_reducible refine (H3.out _ k12).mono ?_
    rintro e w3 ⟨v3, rfl, hr3, k3⟩
    obtain ⟨A4, c4, rfl, _, _⟩ := hr3.shape
    have k13 := k12.trans k3
    clear hr3
    go_wp2_with fail
    with_reducible refine (H4.out _ k13).mono ?_
    rintro e w4 ⟨rfl, hb4⟩
    go_wp2
    go_ret
    exact ⟨rfl, (k13.trans (Kp.of hb4)).bel⟩
end Go.Proofs.Ytpmhpogkpkhbfaa
