/-
  hedgkeep.ZipSkip: the walk: it answers true. Conditions: the keys read as ints (RD), no more than 1048576 of them; the table of math/bits holds what it is laid with (DTb).
  hedgkeep.ZipSkip: THE STATEMENT of the second form: for every input of the bound it answers true. Conditions: the table of math/bits holds what the program's text lays (tied on the card).
-/
import Derived.Test.YtfgbbmjnjppfnaaDoorG16
import Derived.Test.YtfgbbmjnjppfnaaDoorG23
import Derived.Test.YtfgbbmjnjppfnaaDoorG15
import Derived.Test.YtfgbbmjnjppfnaaDoorG14
import Derived.Deep.LoopGhost
import Derived.Test.YtfgbbmjnjppfnaaDoorG1
import Derived.Test.YtfgbbmjnjppfnaaDoorCards
import Derived.Test.YtfgbbmjnjppfnaaDoorTie
import Derived.SevenTiedAt
import Derived.Deep.DeepHandedRow

namespace Go.Proofs.YtfgbbmjnjppfnaaDoor
open Go.ChangeShapes Go.WideShapes Go.ChangeAt Go.RowKit
set_option linter.unusedVariables false
set_option linter.unusedSimpArgs false

def ZaRel (l : List IP) (key : Int) (w : World) (av iv : Value) (wr : World) : Prop := ∃ k : Nat, k ≤ l.length ∧ iv = .int .i64 k ∧ av = .int .i64 (atF (candZ l key) (gv l) k) ∧ Kp w wr
def ZbRel (l : List IP) (key : Int) (P : List Nat) (w : World) (g : Nat) (lv kv : Value) (wr : World) : Prop := ∃ i : Nat, i + g = P.length ∧ kv = .int .i64 (upAt P i) ∧ OW wr w.heap.size 3 eInt lv (upLess (gk l) key P i) ∧ Kp w wr
def ZsdRel (R : List IP) (w : World) (sv iv : Value) (wr : World) : Prop := ∃ j : Nat, j ≤ R.length ∧ iv = .int .i64 (j : Int) ∧ OW wr w.heap.size 3 eInt sv ((R.take j).map Prod.snd) ∧ Kp w wr
theorem gk_at {l : List IP} {k : Nat} (h : k < l.length) : l[k].1 = gk l k := by
  rw [gk, List.getD_eq_getElem?_getD, List.getElem?_eq_getElem h]; rfl
theorem gv_at {l : List IP} {k : Nat} (h : k < l.length) : l[k].2 = gv l k := by
  rw [gv, List.getD_eq_getElem?_getD, List.getElem?_eq_getElem h]; rfl
theorem gI_at {U : List Int} {k : Nat} (h : k < U.length) : U[k] = gI U k := by
  rw [gI, List.getD_eq_getElem?_getD, List.getElem?_eq_getElem h]; rfl
theorem atF_yes {cand : Nat → Bool} {dep : Nat → Int} {k : Nat} (h : cand k = true) (h2 : atF cand dep k < 0 ∨ dep (atF cand dep k).toNat < dep k) : atF cand dep (k + 1) = k := by rw [atF, if_pos ⟨h, h2⟩]
theorem atF_no {cand : Nat → Bool} {dep : Nat → Int} {k : Nat} (h : cand k = false) : atF cand dep (k + 1) = atF cand dep k := by rw [atF, if_neg (by rw [h]; simp)]
theorem atF_no2 {cand : Nat → Bool} {dep : Nat → Int} {k : Nat} (h2 : ¬ (atF cand dep k < 0 ∨ dep (atF cand dep k).toNat < dep k)) : atF cand dep (k + 1) = atF cand dep k := by rw [atF, if_neg (fun h => h2 h.2)]
theorem upAt_in {P : List Nat} {i : Nat} (h : i < P.length) : upAt P i = ((P[P.length - 1 - i]'(by omega) : Nat) : Int) := by rw [upAt, dif_pos h]
theorem upAt_out {P : List Nat} {i : Nat} (h : ¬ i < P.length) : upAt P i = -1 := by rw [upAt, dif_neg h]
/-- The ways of a round of the first loop. -/
inductive CandW (l : List IP) (key : Int) (k : Nat) : Bool → Prop
  | a1 (h1 : gk l k < key) (h2 : k + 1 = l.length) : CandW l key k true
  | a2 (h1 : gk l k < key) (h2 : k + 1 < l.length) (h3 : key < gk l (k + 1)) : CandW l key k true
  | a3 (h1 : gk l k < key) (h2 : k + 1 < l.length) (h3 : ¬ key < gk l (k + 1)) : CandW l key k false
  | b0 (h1 : gk l k = key) : CandW l key k false
  | b1 (h1 : key < gk l k) (h2 : k = 0) : CandW l key k true
  | b2 (h1 : key < gk l k) (h2 : 0 < k) (h3 : gk l (k - 1) < key) : CandW l key k true
  | b3 (h1 : key < gk l k) (h2 : 0 < k) (h3 : ¬ gk l (k - 1) < key) : CandW l key k false
theorem candW (l : List IP) (key : Int) {k : Nat} (h : k < l.length) : CandW l key k (candZ l key k) := by
  unfold candZ
  rcases Int.lt_trichotomy (gk l k) key with h1 | h1 | h1
  · by_cases h2 : k + 1 = l.length
    · have : ((decide (gk l k < key) && (decide (k + 1 = l.length) || decide (key < gk l (k + 1)))) || (decide (key < gk l k) && (decide (k = 0) || decide (gk l (k - 1) < key)))) = true := by simp [h1, h2]
      rw [this]; exact .a1 h1 h2
    · by_cases h3 : key < gk l (k + 1)
      · have : ((decide (gk l k < key) && (decide (k + 1 = l.length) || decide (key < gk l (k + 1)))) || (decide (key < gk l k) && (decide (k = 0) || decide (gk l (k - 1) < key)))) = true := by simp [h1, h3]
        rw [this]; exact .a2 h1 (by omega) h3
      · have : ((decide (gk l k < key) && (decide (k + 1 = l.length) || decide (key < gk l (k + 1)))) || (decide (key < gk l k) && (decide (k = 0) || decide (gk l (k - 1) < key)))) = false := by simp [h2, h3]; omega
        rw [this]; exact .a3 h1 (by omega) h3
  · have : ((decide (gk l k < key) && (decide (k + 1 = l.length) || decide (key < gk l (k + 1)))) || (decide (key < gk l k) && (decide (k = 0) || decide (gk l (k - 1) < key)))) = false := by simp [h1]
    rw [this]; exact .b0 h1
  · by_cases h2 : k = 0
    · have : ((decide (gk l k < key) && (decide (k + 1 = l.length) || decide (key < gk l (k + 1)))) || (decide (key < gk l k) && (decide (k = 0) || decide (gk l (k - 1) < key)))) = true := by
        have e1 : decide (key < gk l k) = true := decide_eq_true h1
        have e2 : decide (k = 0) = true := decide_eq_true h2
        rw [e1, e2]; simp
      rw [this]; exact .b1 h1 h2
    · by_cases h3 : gk l (k - 1) < key
      · have : ((decide (gk l k < key) && (decide (k + 1 = l.length) || decide (key < gk l (k + 1)))) || (decide (key < gk l k) && (decide (k = 0) || decide (gk l (k - 1) < key)))) = true := by simp [h1, h3]
        rw [this]; exact .b2 h1 (by omega) h3
      · have : ((decide (gk l k < key) && (decide (k + 1 = l.length) || decide (key < gk l (k + 1)))) || (decide (key < gk l k) && (decide (k = 0) || decide (gk l (k - 1) < key)))) = false := by simp [h2, h3]; omega
        rw [this]; exact .b3 h1 (by omega) h3

set_option maxRecDepth 100000 in
set_option maxHeartbeats 16000000 in
theorem zipSkip_walk (ks : List Int) (key : Int) (v : Value) (w : World) (hr : RD w eInt v ks) (hkey : -9223372036854775808 ≤ key ∧ key ≤ 9223372036854775807) (hn : ks.length ≤ 1048576) (hdb : DTb w) : Calls Tryd.prog 8 #[v, .int .i64 key] w (Ret (.bool true) w) := by
  have HR := hide hr
  have HDB := hide hdb
  have HPA := hide (skPath_any ks key _ w hr hdb)
  have HPU := hide (fun W v h => putAll_any ks v W h hn)
  have HZR := hide (fun W v h hd => zipRun_any (ks.map pO) v W h hd)
  have HCO := hide (fun W v h => contains_any ks key v W h)
  have HLK : Hid (ks.length ≤ 1048576) := hide hn
  obtain ⟨A, c, rfl, hc, hm⟩ := hr.shape
  clear hr hdb hn
  by_cases hok : okL [(pathOf ks key).2, (zipRun (ks.map pO)).2.2] = true
  · have hp0 : (pathOf ks key).2 = 0 := by
      simp only [okL, List.all_cons, List.all_nil, Bool.and_eq_true, beq_iff_eq] at hok
      exact hok.1
    have hk0 : krL ks = 0 ∧ pathOf ks key = ((stAll ks key 12).1, 0) := by
      unfold pathOf at hp0 ⊢
      by_cases h1 : krL ks = 0
      · rw [if_pos h1] at hp0 ⊢
        by_cases h2 : 0 ≤ key ∧ key ≤ 1000000
        · rw [if_pos h2]; exact ⟨h1, rfl⟩
        · rw [if_neg h2] at hp0; cases hp0
      · rw [if_neg h1] at hp0; exact absurd hp0 h1
    obtain ⟨hk0, hpe⟩ := hk0
    by_cases hin : key ∈ ks
    · rw [decide_eq_true hin] at HCO
      obtain ⟨⟨pp, pe⟩, hpp⟩ : ∃ p, p = pathOf ks key := ⟨_, rfl⟩
      obtain ⟨⟨zs, za, ze⟩, hzz⟩ : ∃ z, z = zipRun (ks.map pO) := ⟨_, rfl⟩
      rw [← hpp] at HPA hok
      rw [← hzz] at HZR hok
      clear hpp hzz hin hp0 hk0 hpe
      go_enter Tryd.func8, Tryd.ntmps8
      go_wp2_with fail
      with_reducible refine HPA.out.mono ?_
      rintro e w1 ⟨v1, rfl, hr1, hb1⟩
      have kk1 : Kp w w1 := Kp.of hb1
      have HRP := hide hr1
      obtain ⟨A1, c1, rfl, _, _⟩ := hr1.shape
      clear hr1 hb1
      go_wp2_with fail
      with_reducible refine (HPU.out _ _ (HR.out.kp kk1)).mono ?_
      rintro e w2 ⟨v2, rfl, ho2, hb2⟩
      have kk2 := Kp.of hb2
      have HR2 := hide ho2.rd
      clear ho2 hb2
      go_wp2_with fail
      with_reducible refine (HZR.out _ _ HR2.out (HDB.out.kp (kk1.trans kk2))).mono ?_
      rintro e w3 ⟨v3, u3, rfl, hr3, hu3, hb3⟩
      have kk3 := Kp.of hb3
      have HRZ := hide hr3
      obtain ⟨A3, c3, rfl, _, _⟩ := hr3.shape
      obtain ⟨B3, d3, rfl, _, _⟩ := hu3.shape
      clear hr3 hu3 hb3
      have K3 := kk1.trans (kk2.trans kk3)
      go_wp2_with fail
      with_reducible refine (zipLives_any _ (HDB.out.kp K3)).mono ?_
      rintro e w4 ⟨rfl, hb4⟩
      have kk4 := Kp.of hb4
      clear hb4
      go_wp2_with fail
      refine (ok_any [_, _] _ _ (RD.block (l := [_, _]) (heap_alloc_new w4 _) rfl (by simp [maxLen]))).mono ?_
      rintro e w5 ⟨rfl, hw5⟩
      have kk5 : Kp w4 w5 := by rw [← hw5]; exact (Kp.refl w4).alloc
      have K5 := K3.trans (kk4.trans kk5)
      have HRP := hide (HRP.out.kp (kk2.trans (kk3.trans (kk4.trans kk5))))
      have HRZ := hide (HRZ.out.kp (kk4.trans kk5))
      clear hw5 K3 kk1 kk2 kk3 kk4 kk5 HR2
      go_wp2_with fail
      with_reducible refine (HCO.out _ _ (HR.out.kp K5)).mono ?_
      rintro e w6 ⟨rfl, hb6⟩
      have kk6 := Kp.of hb6
      clear hb6
      go_wp2_with fail
      with_reducible refine (zipLives_any _ (HDB.out.kp (K5.trans kk6))).mono ?_
      rintro e w7 ⟨rfl, hb7⟩
      have kk7 := Kp.of hb7
      clear hb7
      go_wp2
      go_ret
      exact ⟨rfl, (K5.trans (kk6.trans kk7)).bel⟩
    · obtain ⟨l, AN, U, P, f1, f2, f3, f4, f5, f6, f7, f8, f9⟩ := zskip_facts hk0 hin
      obtain ⟨hlen, hpair, hbnd⟩ := krL_in hk0
      have hPl := (stAll_in hbnd key 12).2.2
      rw [decide_eq_false hin] at HCO
      have hPP : ((stAll ks key 12).1).length ≤ 2400 := Nat.le_trans hPl (by omega)
      rw [hpe] at HPA hok
      rw [f1] at HZR hok
      have HPT := hide (fun W v h => parents_of l v W h)
      rw [f2] at HPT
      obtain ⟨Q, hQ⟩ : ∃ Q, Q = (stAll ks key 12).1 := ⟨_, rfl⟩
      rw [← hQ] at HPA hPP f8
      have HRV := hide (fun W v h => reversedStops_any Q v W h (by omega))
      obtain ⟨RS, hRS⟩ : ∃ RS, RS = Q.reverse := ⟨_, rfl⟩
      rw [← hRS] at HRV f8
      have hRl : RS.length ≤ 2400 := by rw [hRS]; simpa using hPP
      have hU2 : U.length ≤ 200 := by omega
      have hll : l.length ≤ 200 := by omega
      have F5 := hide f5
      have F6 := hide f6
      have F7 := hide f7
      have F8 := hide f8
      have F3 := hide f3
      have HPN : Hid (P.length ≤ 1000000) := hide (by omega)
      have F4 : Hid (l.length = ks.length) := hide f4
      have d9 : ((l.length : Int) != (ks.length : Int)) = false := by simp [f4]
      clear f1 f2 f3 f4 f5 f6 f7 f8 f9 hp0 hk0 hpe hin hlen hpair hbnd hPl hQ hRS hPP
      go_enter Tryd.func8, Tryd.ntmps8
      go_wp2_with fail
      with_reducible refine HPA.out.mono ?_
      rintro e w1 ⟨v1, rfl, hr1, hb1⟩
      have kk1 : Kp w w1 := Kp.of hb1
      have HRP := hide hr1
      obtain ⟨A1, c1, rfl, _, _⟩ := hr1.shape
      clear hr1 hb1
      go_wp2_with fail
      with_reducible refine (HPU.out _ _ (HR.out.kp kk1)).mono ?_
      rintro e w2 ⟨v2, rfl, ho2, hb2⟩
      have kk2 := Kp.of hb2
      have HR2 := hide ho2.rd
      clear ho2 hb2
      go_wp2_with fail
      with_reducible refine (HZR.out _ _ HR2.out (HDB.out.kp (kk1.trans kk2))).mono ?_
      rintro e w3 ⟨v3, u3, rfl, hr3, hu3, hb3⟩
      have kk3 := Kp.of hb3
      have HRZ := hide hr3
      obtain ⟨A3, c3, rfl, _, _⟩ := hr3.shape
      obtain ⟨B3, d3, rfl, _, _⟩ := hu3.shape
      clear hr3 hu3 hb3
      have K3 := kk1.trans (kk2.trans kk3)
      go_wp2_with fail
      with_reducible refine (zipLives_any _ (HDB.out.kp K3)).mono ?_
      rintro e w4 ⟨rfl, hb4⟩
      have kk4 := Kp.of hb4
      clear hb4
      go_wp2_with fail
      refine (ok_any [_, _] _ _ (RD.block (l := [_, _]) (heap_alloc_new w4 _) rfl (by simp [maxLen]))).mono ?_
      rintro e w5 ⟨rfl, hw5⟩
      have kk5 : Kp w4 w5 := by rw [← hw5]; exact (Kp.refl w4).alloc
      have K5 := K3.trans (kk4.trans kk5)
      have HRP := hide (HRP.out.kp (kk2.trans (kk3.trans (kk4.trans kk5))))
      have HRZ := hide (HRZ.out.kp (kk4.trans kk5))
      clear hw5 K3 kk1 kk2 kk3 kk4 kk5 HR2
      go_wp2_with fail
      with_reducible refine (HCO.out _ _ (HR.out.kp K5)).mono ?_
      rintro e w6 ⟨rfl, hb6⟩
      have K6 := K5.trans (Kp.of hb6)
      have kk56 := Kp.of hb6
      have HRZ6 := hide (HRZ.out.kp kk56)
      have HRP6 := hide (HRP.out.kp kk56)
      clear hb6 kk56
      go_wp2_with fail
      with_reducible refine (HPT.out _ _ HRZ6.out).mono ?_
      rintro e w7 ⟨v7, rfl, hr7, hb7⟩
      have kk7 := Kp.of hb7
      have HU7 := hide hr7
      obtain ⟨A7, c7, rfl, _, _⟩ := hr7.shape
      have K7 := K6.trans kk7
      have HRZ7 := hide (HRZ6.out.kp kk7)
      have HRP7 := hide (HRP6.out.kp kk7)
      clear hr7 hb7 K5 K6 kk7
      go_wp2
      go_loopw [12, 66] (ZaRel l key w7) (fun _ i _ => l.length - (intOf i).toNat)
      case atStart => exact ⟨0, by omega, rfl, rfl, Kp.refl _⟩
      case round =>
        obtain ⟨k, hk, rfl, rfl, hkp⟩ := hrel
        by_cases hlt : k < l.length
        · obtain ⟨b, o, rfl, _, x0, x1⟩ := (HRZ7.out.kp hkp).pair hlt
          have HC := hide (HRZ7.out.kp hkp)
          obtain ⟨k1, hk1⟩ : ∃ k1, k1 = k + 1 := ⟨_, rfl⟩
          have s1 : IntKind.i64.wrap ((k : Int) + 1) = (k1 : Int) := by rw [IntWalk.i64_in _ (by omega), hk1]; simp
          have HW := candW l key hlt
          rw [gk_at hlt] at x0
          rw [gv_at hlt] at x1
          have HAI := hide (atF_inv (candZ l key) (gv l) k)
          have HY := hide (@atF_yes (candZ l key) (gv l) k)
          have HN := hide (@atF_no (candZ l key) (gv l) k)
          have HN2 := hide (@atF_no2 (candZ l key) (gv l) k)
          have HK1 : Hid (k1 = k + 1) := hide hk1
          obtain ⟨y, hy⟩ : ∃ y, y = gk l k := ⟨_, rfl⟩
          obtain ⟨d, hd⟩ : ∃ d, d = gv l k := ⟨_, rfl⟩
          obtain ⟨cz, hcz⟩ : ∃ cz, cz = candZ l key k := ⟨_, rfl⟩
          rw [← hy] at x0
          rw [← hd] at x1 HY HN2
          rw [← hcz] at HW HY HN
          have HKP := hide hkp
          rcases HW with ⟨h1, h2⟩ | ⟨h1, h2, h3⟩ | ⟨h1, h2, h3⟩ | h1 | ⟨h1, h2⟩ | ⟨h1, h2, h3⟩ | ⟨h1, h2, h3⟩
          · have d1 : decide (y < key) = true := by rw [hy]; exact decide_eq_true h1
            have d2 : ((k1 : Int) == (l.length : Int)) = true := by rw [hk1, ← h2]; simp
            have d3 : decide (key < y) = false := by rw [hy]; exact decide_eq_false (by omega)
            clear h1 h2 hy hd hcz hk1
            rcases HAI.out with ⟨e1, _⟩ | ⟨m, e0, e1, _, _⟩
            · rw [e1]
              have HE : Hid (atF (candZ l key) (gv l) (k + 1) = (k : Int)) := hide (HY.out rfl (.inl (by rw [e1]; omega)))
              clear HAI HY HN HN2 e1
              go_wp2_with fail
              go_quiet (fail)
              go_wp2
              go_roundw
              case rel => exact ⟨k1, by have := HK1.out; omega, rfl, by rw [HK1.out, HE.out], by (focus ((repeat (first | (with_reducible assumption) | (with_reducible exact Kp.refl _) | (with_reducible apply Kp.drew) | (with_reducible apply Kp.drewN) | ((with_reducible apply Kp.setR); (focus (first | (with_reducible assumption) | (simp; done) | (simp; omega)))) | (with_reducible apply Kp.alloc) | ((with_reducible apply Kp.call); (with_reducible assumption)) | ((with_reducible apply Kp.app); (with_reducible assumption)))); done))⟩
              case measure => have := HK1.out; simp [intOf]; omega
            · rw [e1]
              have hml : m < l.length := by omega
              obtain ⟨_, _, he, _, _, q1⟩ := HC.out.pair hml
              cases he
              rw [gv_at hml] at q1
              obtain ⟨dm, hdm⟩ : ∃ dm, dm = gv l m := ⟨_, rfl⟩
              rw [← hdm] at q1
              have hc0 : decide ((m : Int) < 0) = false := decide_eq_false (by omega)
              by_cases hdd : dm < d
              · have d6 : decide (dm < d) = true := decide_eq_true hdd
                have HE : Hid (atF (candZ l key) (gv l) (k + 1) = (k : Int)) := hide (HY.out rfl (.inr (by rw [e1, Int.toNat_natCast, ← hdm]; exact hdd)))
                clear HAI HY HN HN2 e1 hdm hdd e0
                go_wp2_with fail
                go_quiet (fail)
                go_wp2
                go_roundw
                case rel => exact ⟨k1, by have := HK1.out; omega, rfl, by rw [HK1.out, HE.out], by (focus ((repeat (first | (with_reducible assumption) | (with_reducible exact Kp.refl _) | (with_reducible apply Kp.drew) | (with_reducible apply Kp.drewN) | ((with_reducible apply Kp.setR); (focus (first | (with_reducible assumption) | (simp; done) | (simp; omega)))) | (with_reducible apply Kp.alloc) | ((with_reducible apply Kp.call); (with_reducible assumption)) | ((with_reducible apply Kp.app); (with_reducible assumption)))); done))⟩
                case measure => have := HK1.out; simp [intOf]; omega
              · have d6 : decide (dm < d) = false := decide_eq_false hdd
                have HE : Hid (atF (candZ l key) (gv l) (k + 1) = (m : Int)) := hide (by rw [HN2.out (by rw [e1, Int.toNat_natCast, ← hdm]; omega), e1])
                clear HAI HY HN HN2 e1 hdm hdd e0
                go_wp2_with fail
                go_quiet (fail)
                go_wp2
                go_roundw
                case rel => exact ⟨k1, by have := HK1.out; omega, rfl, by rw [HK1.out, HE.out], by (focus ((repeat (first | (with_reducible assumption) | (with_reducible exact Kp.refl _) | (with_reducible apply Kp.drew) | (with_reducible apply Kp.drewN) | ((with_reducible apply Kp.setR); (focus (first | (with_reducible assumption) | (simp; done) | (simp; omega)))) | (with_reducible apply Kp.alloc) | ((with_reducible apply Kp.call); (with_reducible assumption)) | ((with_reducible apply Kp.app); (with_reducible assumption)))); done))⟩
                case measure => have := HK1.out; simp [intOf]; omega
          · have d1 : decide (y < key) = true := by rw [hy]; exact decide_eq_true h1
            have d2 : ((k1 : Int) == (l.length : Int)) = false := beq_eq_false_iff_ne.2 (by omega)
            have d3 : decide (key < y) = false := by rw [hy]; exact decide_eq_false (by omega)
            have hk1l : k1 < l.length := by omega
            obtain ⟨_, _, he, _, z0, _⟩ := HC.out.pair hk1l
            cases he
            rw [gk_at hk1l] at z0
            have d4 : decide (key < gk l k1) = true := decide_eq_true (by rw [hk1]; exact h3)
            obtain ⟨z, hz⟩ : ∃ z, z = gk l k1 := ⟨_, rfl⟩
            rw [← hz] at z0 d4
            clear h1 h2 h3 hy hd hcz hk1 hz
            rcases HAI.out with ⟨e1, _⟩ | ⟨m, e0, e1, _, _⟩
            · rw [e1]
              have HE : Hid (atF (candZ l key) (gv l) (k + 1) = (k : Int)) := hide (HY.out rfl (.inl (by rw [e1]; omega)))
              clear HAI HY HN HN2 e1
              go_wp2_with fail
              go_quiet (fail)
              go_wp2
              go_roundw
              case rel => exact ⟨k1, by have := HK1.out; omega, rfl, by rw [HK1.out, HE.out], by (focus ((repeat (first | (with_reducible assumption) | (with_reducible exact Kp.refl _) | (with_reducible apply Kp.drew) | (with_reducible apply Kp.drewN) | ((with_reducible apply Kp.setR); (focus (first | (with_reducible assumption) | (simp; done) | (simp; omega)))) | (with_reducible apply Kp.alloc) | ((with_reducible apply Kp.call); (with_reducible assumption)) | ((with_reducible apply Kp.app); (with_reducible assumption)))); done))⟩
              case measure => have := HK1.out; simp [intOf]; omega
            · rw [e1]
              have hml : m < l.length := by omega
              obtain ⟨_, _, he, _, _, q1⟩ := HC.out.pair hml
              cases he
              rw [gv_at hml] at q1
              obtain ⟨dm, hdm⟩ : ∃ dm, dm = gv l m := ⟨_, rfl⟩
              rw [← hdm] at q1
              have hc0 : decide ((m : Int) < 0) = false := decide_eq_false (by omega)
              by_cases hdd : dm < d
              · have d6 : decide (dm < d) = true := decide_eq_true hdd
                have HE : Hid (atF (candZ l key) (gv l) (k + 1) = (k : Int)) := hide (HY.out rfl (.inr (by rw [e1, Int.toNat_natCast, ← hdm]; exact hdd)))
                clear HAI HY HN HN2 e1 hdm hdd e0
                go_wp2_with fail
                go_quiet (fail)
                go_wp2
                go_roundw
                case rel => exact ⟨k1, by have := HK1.out; omega, rfl, by rw [HK1.out, HE.out], by (focus ((repeat (first | (with_reducible assumption) | (with_reducible exact Kp.refl _) | (with_reducible apply Kp.drew) | (with_reducible apply Kp.drewN) | ((with_reducible apply Kp.setR); (focus (first | (with_reducible assumption) | (simp; done) | (simp; omega)))) | (with_reducible apply Kp.alloc) | ((with_reducible apply Kp.call); (with_reducible assumption)) | ((with_reducible apply Kp.app); (with_reducible assumption)))); done))⟩
                case measure => have := HK1.out; simp [intOf]; omega
              · have d6 : decide (dm < d) = false := decide_eq_false hdd
                have HE : Hid (atF (candZ l key) (gv l) (k + 1) = (m : Int)) := hide (by rw [HN2.out (by rw [e1, Int.toNat_natCast, ← hdm]; omega), e1])
                clear HAI HY HN HN2 e1 hdm hdd e0
                go_wp2_with fail
                go_quiet (fail)
                go_wp2
                go_roundw
                case rel => exact ⟨k1, by have := HK1.out; omega, rfl, by rw [HK1.out, HE.out], by (focus ((repeat (first | (with_reducible assumption) | (with_reducible exact Kp.refl _) | (with_reducible apply Kp.drew) | (with_reducible apply Kp.drewN) | ((with_reducible apply Kp.setR); (focus (first | (with_reducible assumption) | (simp; done) | (simp; omega)))) | (with_reducible apply Kp.alloc) | ((with_reducible apply Kp.call); (with_reducible assumption)) | ((with_reducible apply Kp.app); (with_reducible assumption)))); done))⟩
                case measure => have := HK1.out; simp [intOf]; omega
          · have d1 : decide (y < key) = true := by rw [hy]; exact decide_eq_true h1
            have d2 : ((k1 : Int) == (l.length : Int)) = false := beq_eq_false_iff_ne.2 (by omega)
            have d3 : decide (key < y) = false := by rw [hy]; exact decide_eq_false (by omega)
            have hk1l : k1 < l.length := by omega
            obtain ⟨_, _, he, _, z0, _⟩ := HC.out.pair hk1l
            cases he
            rw [gk_at hk1l] at z0
            have d4 : decide (key < gk l k1) = false := decide_eq_false (by rw [hk1]; exact h3)
            obtain ⟨z, hz⟩ : ∃ z, z = gk l k1 := ⟨_, rfl⟩
            rw [← hz] at z0 d4
            clear h1 h2 h3 hy hd hcz hk1 hz
            have HE := hide (HN.out rfl)
            obtain ⟨aa, haa⟩ : ∃ aa, aa = atF (candZ l key) (gv l) k := ⟨_, rfl⟩
            rw [← haa] at HE ⊢
            clear HAI HY HN HN2 haa
            go_wp2_with fail
            go_quiet (fail)
            go_wp2
            go_roundw
            case rel => exact ⟨k1, by have := HK1.out; omega, rfl, by rw [HK1.out, HE.out], by (focus ((repeat (first | (with_reducible assumption) | (with_reducible exact Kp.refl _) | (with_reducible apply Kp.drew) | (with_reducible apply Kp.drewN) | ((with_reducible apply Kp.setR); (focus (first | (with_reducible assumption) | (simp; done) | (simp; omega)))) | (with_reducible apply Kp.alloc) | ((with_reducible apply Kp.call); (with_reducible assumption)) | ((with_reducible apply Kp.app); (with_reducible assumption)))); done))⟩
            case measure => have := HK1.out; simp [intOf]; omega
          · have d1 : decide (y < key) = false := by rw [hy]; exact decide_eq_false (by omega)
            have d3 : decide (key < y) = false := by rw [hy]; exact decide_eq_false (by omega)
            clear h1 hy hd hcz hk1
            have HE := hide (HN.out rfl)
            obtain ⟨aa, haa⟩ : ∃ aa, aa = atF (candZ l key) (gv l) k := ⟨_, rfl⟩
            rw [← haa] at HE ⊢
            clear HAI HY HN HN2 haa
            go_wp2_with fail
            go_quiet (fail)
            go_wp2
            go_roundw
            case rel => exact ⟨k1, by have := HK1.out; omega, rfl, by rw [HK1.out, HE.out], by (focus ((repeat (first | (with_reducible assumption) | (with_reducible exact Kp.refl _) | (with_reducible apply Kp.drew) | (with_reducible apply Kp.drewN) | ((with_reducible apply Kp.setR); (focus (first | (with_reducible assumption) | (simp; done) | (simp; omega)))) | (with_reducible apply Kp.alloc) | ((with_reducible apply Kp.call); (with_reducible assumption)) | ((with_reducible apply Kp.app); (with_reducible assumption)))); done))⟩
            case measure => have := HK1.out; simp [intOf]; omega
          · have d1 : decide (y < key) = false := by rw [hy]; exact decide_eq_false (by omega)
            have d2 : ((k : Int) == 0) = true := by rw [h2]; rfl
            have d3 : decide (key < y) = true := by rw [hy]; exact decide_eq_true h1
            clear h1 h2 hy hd hcz hk1
            rcases HAI.out with ⟨e1, _⟩ | ⟨m, e0, e1, _, _⟩
            · rw [e1]
              have HE : Hid (atF (candZ l key) (gv l) (k + 1) = (k : Int)) := hide (HY.out rfl (.inl (by rw [e1]; omega)))
              clear HAI HY HN HN2 e1
              go_wp2_with fail
              go_quiet (fail)
              go_wp2
              go_roundw
              case rel => exact ⟨k1, by have := HK1.out; omega, rfl, by rw [HK1.out, HE.out], by (focus ((repeat (first | (with_reducible assumption) | (with_reducible exact Kp.refl _) | (with_reducible apply Kp.drew) | (with_reducible apply Kp.drewN) | ((with_reducible apply Kp.setR); (focus (first | (with_reducible assumption) | (simp; done) | (simp; omega)))) | (with_reducible apply Kp.alloc) | ((with_reducible apply Kp.call); (with_reducible assumption)) | ((with_reducible apply Kp.app); (with_reducible assumption)))); done))⟩
              case measure => have := HK1.out; simp [intOf]; omega
            · rw [e1]
              have hml : m < l.length := by omega
              obtain ⟨_, _, he, _, _, q1⟩ := HC.out.pair hml
              cases he
              rw [gv_at hml] at q1
              obtain ⟨dm, hdm⟩ : ∃ dm, dm = gv l m := ⟨_, rfl⟩
              rw [← hdm] at q1
              have hc0 : decide ((m : Int) < 0) = false := decide_eq_false (by omega)
              by_cases hdd : dm < d
              · have d6 : decide (dm < d) = true := decide_eq_true hdd
                have HE : Hid (atF (candZ l key) (gv l) (k + 1) = (k : Int)) := hide (HY.out rfl (.inr (by rw [e1, Int.toNat_natCast, ← hdm]; exact hdd)))
                clear HAI HY HN HN2 e1 hdm hdd e0
                go_wp2_with fail
                go_quiet (fail)
                go_wp2
                go_roundw
                case rel => exact ⟨k1, by have := HK1.out; omega, rfl, by rw [HK1.out, HE.out], by (focus ((repeat (first | (with_reducible assumption) | (with_reducible exact Kp.refl _) | (with_reducible apply Kp.drew) | (with_reducible apply Kp.drewN) | ((with_reducible apply Kp.setR); (focus (first | (with_reducible assumption) | (simp; done) | (simp; omega)))) | (with_reducible apply Kp.alloc) | ((with_reducible apply Kp.call); (with_reducible assumption)) | ((with_reducible apply Kp.app); (with_reducible assumption)))); done))⟩
                case measure => have := HK1.out; simp [intOf]; omega
              · have d6 : decide (dm < d) = false := decide_eq_false hdd
                have HE : Hid (atF (candZ l key) (gv l) (k + 1) = (m : Int)) := hide (by rw [HN2.out (by rw [e1, Int.toNat_natCast, ← hdm]; omega), e1])
                clear HAI HY HN HN2 e1 hdm hdd e0
                go_wp2_with fail
                go_quiet (fail)
                go_wp2
                go_roundw
                case rel => exact ⟨k1, by have := HK1.out; omega, rfl, by rw [HK1.out, HE.out], by (focus ((repeat (first | (with_reducible assumption) | (with_reducible exact Kp.refl _) | (with_reducible apply Kp.drew) | (with_reducible apply Kp.drewN) | ((with_reducible apply Kp.setR); (focus (first | (with_reducible assumption) | (simp; done) | (simp; omega)))) | (with_reducible apply Kp.alloc) | ((with_reducible apply Kp.call); (with_reducible assumption)) | ((with_reducible apply Kp.app); (with_reducible assumption)))); done))⟩
                case measure => have := HK1.out; simp [intOf]; omega
          · have d1 : decide (y < key) = false := by rw [hy]; exact decide_eq_false (by omega)
            have d2 : ((k : Int) == 0) = false := beq_eq_false_iff_ne.2 (by omega)
            have d3 : decide (key < y) = true := by rw [hy]; exact decide_eq_true h1
            obtain ⟨k0, hk0⟩ : ∃ k0, k0 = k - 1 := ⟨_, rfl⟩
            have s0 : IntKind.i64.wrap ((k : Int) - 1) = (k0 : Int) := by rw [IntWalk.i64_in _ (by omega)]; omega
            have hk0l : k0 < l.length := by omega
            obtain ⟨_, _, he, _, z0, _⟩ := HC.out.pair hk0l
            cases he
            rw [gk_at hk0l] at z0
            have d4 : decide (gk l k0 < key) = true := decide_eq_true (by rw [hk0]; exact h3)
            obtain ⟨z, hz⟩ : ∃ z, z = gk l k0 := ⟨_, rfl⟩
            rw [← hz] at z0 d4
            clear h1 h2 h3 hy hd hcz hk1 hz hk0
            rcases HAI.out with ⟨e1, _⟩ | ⟨m, e0, e1, _, _⟩
            · rw [e1]
              have HE : Hid (atF (candZ l key) (gv l) (k + 1) = (k : Int)) := hide (HY.out rfl (.inl (by rw [e1]; omega)))
              clear HAI HY HN HN2 e1
              go_wp2_with fail
              go_quiet (fail)
              go_wp2
              go_roundw
              case rel => exact ⟨k1, by have := HK1.out; omega, rfl, by rw [HK1.out, HE.out], by (focus ((repeat (first | (with_reducible assumption) | (with_reducible exact Kp.refl _) | (with_reducible apply Kp.drew) | (with_reducible apply Kp.drewN) | ((with_reducible apply Kp.setR); (focus (first | (with_reducible assumption) | (simp; done) | (simp; omega)))) | (with_reducible apply Kp.alloc) | ((with_reducible apply Kp.call); (with_reducible assumption)) | ((with_reducible apply Kp.app); (with_reducible assumption)))); done))⟩
              case measure => have := HK1.out; simp [intOf]; omega
            · rw [e1]
              have hml : m < l.length := by omega
              obtain ⟨_, _, he, _, _, q1⟩ := HC.out.pair hml
              cases he
              rw [gv_at hml] at q1
              obtain ⟨dm, hdm⟩ : ∃ dm, dm = gv l m := ⟨_, rfl⟩
              rw [← hdm] at q1
              have hc0 : decide ((m : Int) < 0) = false := decide_eq_false (by omega)
              by_cases hdd : dm < d
              · have d6 : decide (dm < d) = true := decide_eq_true hdd
                have HE : Hid (atF (candZ l key) (gv l) (k + 1) = (k : Int)) := hide (HY.out rfl (.inr (by rw [e1, Int.toNat_natCast, ← hdm]; exact hdd)))
                clear HAI HY HN HN2 e1 hdm hdd e0
                go_wp2_with fail
                go_quiet (fail)
                go_wp2
                go_roundw
                case rel => exact ⟨k1, by have := HK1.out; omega, rfl, by rw [HK1.out, HE.out], by (focus ((repeat (first | (with_reducible assumption) | (with_reducible exact Kp.refl _) | (with_reducible apply Kp.drew) | (with_reducible apply Kp.drewN) | ((with_reducible apply Kp.setR); (focus (first | (with_reducible assumption) | (simp; done) | (simp; omega)))) | (with_reducible apply Kp.alloc) | ((with_reducible apply Kp.call); (with_reducible assumption)) | ((with_reducible apply Kp.app); (with_reducible assumption)))); done))⟩
                case measure => have := HK1.out; simp [intOf]; omega
              · have d6 : decide (dm < d) = false := decide_eq_false hdd
                have HE : Hid (atF (candZ l key) (gv l) (k + 1) = (m : Int)) := hide (by rw [HN2.out (by rw [e1, Int.toNat_natCast, ← hdm]; omega), e1])
                clear HAI HY HN HN2 e1 hdm hdd e0
                go_wp2_with fail
                go_quiet (fail)
                go_wp2
                go_roundw
                case rel => exact ⟨k1, by have := HK1.out; omega, rfl, by rw [HK1.out, HE.out], by (focus ((repeat (first | (with_reducible assumption) | (with_reducible exact Kp.refl _) | (with_reducible apply Kp.drew) | (with_reducible apply Kp.drewN) | ((with_reducible apply Kp.setR); (focus (first | (with_reducible assumption) | (simp; done) | (simp; omega)))) | (with_reducible apply Kp.alloc) | ((with_reducible apply Kp.call); (with_reducible assumption)) | ((with_reducible apply Kp.app); (with_reducible assumption)))); done))⟩
                case measure => have := HK1.out; simp [intOf]; omega
          · have d1 : decide (y < key) = false := by rw [hy]; exact decide_eq_false (by omega)
            have d2 : ((k : Int) == 0) = false := beq_eq_false_iff_ne.2 (by omega)
            have d3 : decide (key < y) = true := by rw [hy]; exact decide_eq_true h1
            obtain ⟨k0, hk0⟩ : ∃ k0, k0 = k - 1 := ⟨_, rfl⟩
            have s0 : IntKind.i64.wrap ((k : Int) - 1) = (k0 : Int) := by rw [IntWalk.i64_in _ (by omega)]; omega
            have hk0l : k0 < l.length := by omega
            obtain ⟨_, _, he, _, z0, _⟩ := HC.out.pair hk0l
            cases he
            rw [gk_at hk0l] at z0
            have d4 : decide (gk l k0 < key) = false := decide_eq_false (by rw [hk0]; exact h3)
            obtain ⟨z, hz⟩ : ∃ z, z = gk l k0 := ⟨_, rfl⟩
            rw [← hz] at z0 d4
            clear h1 h2 h3 hy hd hcz hk1 hz hk0
            have HE := hide (HN.out rfl)
            obtain ⟨aa, haa⟩ : ∃ aa, aa = atF (candZ l key) (gv l) k := ⟨_, rfl⟩
            rw [← haa] at HE ⊢
            clear HAI HY HN HN2 haa
            go_wp2_with fail
            go_quiet (fail)
            go_wp2
            go_roundw
            case rel => exact ⟨k1, by have := HK1.out; omega, rfl, by rw [HK1.out, HE.out], by (focus ((repeat (first | (with_reducible assumption) | (with_reducible exact Kp.refl _) | (with_reducible apply Kp.drew) | (with_reducible apply Kp.drewN) | ((with_reducible apply Kp.setR); (focus (first | (with_reducible assumption) | (simp; done) | (simp; omega)))) | (with_reducible apply Kp.alloc) | ((with_reducible apply Kp.call); (with_reducible assumption)) | ((with_reducible apply Kp.app); (with_reducible assumption)))); done))⟩
            case measure => have := HK1.out; simp [intOf]; omega
        · obtain ⟨w8, rfl⟩ : ∃ x, x = wr := ⟨_, rfl⟩
          obtain rfl : k = l.length := by omega
          rw [F6.out]
          have HKP := hide hkp
          have HU8 := hide (HU7.out.kp hkp)
          have HRZ8 := hide (HRZ7.out.kp hkp)
          have HRP8 := hide (HRP7.out.kp hkp)
          have K8 := hide (K7.trans hkp)
          clear hkp hlt hk
          go_wp2
          go_loopg [17, 18] P.length (fun g lv kv wx => ZbRel l key P w8 g lv kv wx)
          case atStart => exact ⟨0, by omega, rfl, OW.nil, Kp.refl _⟩
          case round =>
            obtain ⟨i, hi, rfl, ho, hkp⟩ := hrel
            by_cases hlt : i < P.length
            · obtain ⟨m, hm⟩ : ∃ m, m = P[P.length - 1 - i]'(by omega) := ⟨_, rfl⟩
              have hml : m < l.length := F5.out m (by rw [hm]; exact List.getElem_mem _)
              have hst := upAt_step F7.out hlt
              have hle := upLess_step (Go.Proofs.YtfgbbmjnjppfnaaDoor.gk l) key hlt
              have hUl := F3.out
              rw [← hm] at hst hle
              rw [upAt_in hlt, ← hm]
              have hmu : m < U.length := by omega
              obtain ⟨b, o, rfl, _, x0, _⟩ := (HRZ8.out.kp hkp).pair hml
              obtain ⟨b7, o7, rfl, _, c0⟩ := (HU8.out.kp hkp).int hmu
              rw [gk_at hml] at x0
              rw [gI_at hmu] at c0
              rw [hst] at c0
              obtain ⟨y, hy⟩ : ∃ y, y = Go.Proofs.YtfgbbmjnjppfnaaDoor.gk l m := ⟨_, rfl⟩
              obtain ⟨nx, hnx⟩ : ∃ nx, nx = upAt P (i + 1) := ⟨_, rfl⟩
              obtain ⟨X, hX⟩ : ∃ X, X = upLess (Go.Proofs.YtfgbbmjnjppfnaaDoor.gk l) key P i := ⟨_, rfl⟩
              rw [← hy] at x0 hle
              rw [← hnx] at c0 hst
              rw [← hX] at ho hle
              have hXl : X.length ≤ P.length := by
                rw [hX]; unfold upLess
                rw [List.length_map]
                refine Nat.le_trans (List.length_filter_le _ _) ?_
                rw [List.length_take, List.length_reverse]; omega
              have HNX := hide hnx
              have HI := hide hi
              have HLT := hide hlt
              have HKP := hide hkp
              have hge : decide ((0 : Int) ≤ (m : Int)) = true := decide_eq_true (by omega)
              obtain ⟨A9, N9, c9, rfl⟩ := ho.rd.slice
              have hHi := ho.hi
              have HO := hide ho
              have hPn := HPN.out
              have HM1 : Hid ((X.length + [y].length) * 8 ≤ 140737488355328) := hide (by simp; omega)
              have HM2 : Hid (X.length + [y].length ≤ maxLen) := hide (by simp [maxLen]; omega)
              by_cases hyk : y < key
              · rw [if_pos hyk] at hle
                have d1 : decide (y < key) = true := decide_eq_true hyk
                have HLE := hide hle
                have HST : Hid (gI U m = nx) := hide hst
                clear hyk hle hy hnx hX ho hst hi hm hXl hlt hUl hPn
                go_wp2_with (at_builtin; (with_reducible refine list_app (B := w8.heap.size) (l := X) (m := [y]) row_int (.slice A9 N9 c9) ?_ (.tmp 144) (.tmp 150) ?_ ?_ ?_ ?_ HM1.out HM2.out ?_ ?_); (with_reducible rfl); (with_reducible rfl); rfl; (exact HO.out.alloc _); (show RD _ _ (.slice (some ⟨_, 0, none⟩) 1 1) _; (focus ((repeat (first | (with_reducible assumption) | exact RD.new1 _ rfl | (refine RD.new1e _ ?_ rfl; simp; done) | (with_reducible apply RD.alloc) | (with_reducible apply RD.drew) | (with_reducible apply RD.drewN) | ((with_reducible apply RD.belowR); (with_reducible assumption)))); done))); (exact (HKP.out.alloc).size); intro v3 w3 ho3 hg3 hat3; have kk9 := Kp.app hg3 HKP.out.alloc hHi; obtain ⟨_, _, he, _, c9⟩ := (HU8.out.kp kk9).int hmu; cases he; rw [gI_at hmu, HST.out] at c9)
                go_roundg (gk - 1)
                case measure => have := HI.out; have := HLT.out; omega
                case rel => exact ⟨i + 1, by have := HI.out; have := HLT.out; omega, by rw [HNX.out], by rw [HLE.out]; exact ho3, kk9⟩
              · rw [if_neg hyk] at hle
                have d1 : decide (y < key) = false := decide_eq_false hyk
                have HLE := hide hle
                clear hyk hle hy hnx hX ho hst hi hm hXl hlt hUl hPn
                go_wp2
                go_roundg (gk - 1)
                case measure => have := HI.out; have := HLT.out; omega
                case rel => exact ⟨i + 1, by have := HI.out; have := HLT.out; omega, by rw [HNX.out], by rw [HLE.out]; exact HO.out, HKP.out⟩
            · obtain rfl : i = P.length := by omega
              rw [upAt_out (Nat.lt_irrefl _)]
              rw [F8.out] at ho
              obtain ⟨w9, rfl⟩ : ∃ x, x = wr := ⟨_, rfl⟩
              have K9 := K8.out.trans hkp
              have HRP9 := hide (HRP8.out.kp hkp)
              have HK9 := hide K9
              obtain ⟨A9, N9, c9, rfl⟩ := ho.rd.slice
              have HL9 := hide ho.rd
              have kk9 := Kp.refl w9
              clear ho hkp hlt hi K9
              go_wp2_with fail
              with_reducible refine (HRV.out _ _ HRP9.out).mono ?_
              rintro e w10 ⟨v10, rfl, ho10, hb10⟩
              have kk10 := Kp.of hb10
              have HR10 := hide ho10.rd
              obtain ⟨A10, c10, rfl, _, _⟩ := ho10.rd.shape
              have HL10 := hide (HL9.out.kp kk10)
              have HK10 := hide (HK9.out.trans kk10)
              clear ho10 hb10 kk9 kk10
              go_wp2
              go_loopw [19, 155] (ZsdRel RS w10) (fun _ iv _ => RS.length - (intOf iv).toNat)
              case atStart => exact ⟨0, by omega, rfl, OW.nil, Kp.refl _⟩
              case round =>
                obtain ⟨j, hj, rfl, ho, hkp⟩ := hrel
                by_cases hlt : j < RS.length
                · obtain ⟨b, o, rfl, _, _, x1⟩ := (HR10.out.kp hkp).pair hlt
                  obtain ⟨y, hy⟩ : ∃ y, y = RS[j].2 := ⟨_, rfl⟩
                  rw [← hy] at x1
                  obtain ⟨X, hX⟩ : ∃ X, X = (RS.take j).map Prod.snd := ⟨_, rfl⟩
                  have HN : Hid (X ++ [y] = (RS.take (j + 1)).map Prod.snd) := hide (by rw [List.take_succ_eq_append_getElem hlt, List.map_append, hX, hy]; rfl)
                  rw [← hX] at ho
                  have hXl : X.length ≤ 2400 := by rw [hX]; simp; omega
                  have HM1 : Hid ((X.length + [y].length) * 8 ≤ 140737488355328) := hide (by simp; omega)
                  have HM2 : Hid (X.length + [y].length ≤ maxLen) := hide (by simp [maxLen]; omega)
                  obtain ⟨A11, N11, c11, rfl⟩ := ho.rd.slice
                  have hHi := ho.hi
                  have HO := hide ho
                  have HKP := hide hkp
                  clear hy hX ho hXl
                  go_wp2_with (at_builtin; (with_reducible refine list_app (B := w10.heap.size) (l := X) (m := [y]) row_int (.slice A11 N11 c11) ?_ (.tmp 159) (.tmp 162) ?_ ?_ ?_ ?_ HM1.out HM2.out ?_ ?_); (with_reducible rfl); (with_reducible rfl); rfl; (have hoo := HO.out; (focus ((repeat (first | (with_reducible assumption) | (with_reducible apply OW.alloc) | (with_reducible apply OW.drew) | (with_reducible apply OW.drewN) | ((with_reducible apply OW.setCellR); (with_reducible assumption)) | ((with_reducible apply OW.belowR); (with_reducible assumption)) | ((with_reducible apply OW.keptR); (with_reducible assumption); (with_reducible assumption)))); done))); (show RD _ _ (.slice (some ⟨_, 0, none⟩) 1 1) _; (focus ((repeat (first | (with_reducible assumption) | exact RD.new1 _ rfl | (refine RD.new1e _ ?_ rfl; simp; done) | (with_reducible apply RD.alloc) | (with_reducible apply RD.drew) | (with_reducible apply RD.drewN) | ((with_reducible apply RD.belowR); (with_reducible assumption)))); done))); (have := HKP.out.size; simp; omega); intro v3 w3 ho3 hg3 hat3)
                  go_roundw
                  case rel => exact ⟨j + 1, by omega, by go_num, by rw [← HN.out]; exact ho3, Kp.app hg3 (by have := HKP.out; (focus ((repeat (first | (with_reducible assumption) | (with_reducible exact Kp.refl _) | (with_reducible apply Kp.drew) | (with_reducible apply Kp.drewN) | ((with_reducible apply Kp.setR); (focus (first | (with_reducible assumption) | (simp; done) | (simp; omega)))) | (with_reducible apply Kp.alloc) | ((with_reducible apply Kp.call); (with_reducible assumption)) | ((with_reducible apply Kp.app); (with_reducible assumption)))); done))) hHi⟩
                  case measure => simp [intOf]; omega
                · have e1 : (RS.take j).map Prod.snd = RS.map Prod.snd := by rw [List.take_of_length_le (by omega)]
                  rw [e1] at ho
                  have HS := hide ho.rd
                  have HK := hide hkp
                  clear ho hkp e1
                  go_wp2_with fail
                  with_reducible refine (eqInts_to (RS.map Prod.snd) (RS.map Prod.snd) true _ _ _ (HL10.out.kp HK.out) HS.out (by simp)).mono ?_
                  rintro e w12 ⟨rfl, hb12⟩
                  have kk12 := Kp.of hb12
                  clear hb12
                  go_wp2
                  go_ret
                  exact ⟨rfl, (HK10.out.trans (HK.out.trans kk12)).bel⟩
  · obtain ⟨⟨pp, pe⟩, hpp⟩ : ∃ p, p = pathOf ks key := ⟨_, rfl⟩
    obtain ⟨⟨zs, za, ze⟩, hzz⟩ : ∃ z, z = zipRun (ks.map pO) := ⟨_, rfl⟩
    rw [← hpp] at HPA hok
    rw [← hzz] at HZR hok
    replace hok : okL [pe, ze] = false := by simpa using hok
    clear hpp hzz
    go_enter Tryd.func8, Tryd.ntmps8
    go_wp2_with fail
    with_reducible refine HPA.out.mono ?_
    rintro e w1 ⟨v1, rfl, hr1, hb1⟩
    have kk1 : Kp w w1 := Kp.of hb1
    have HRP := hide hr1
    obtain ⟨A1, c1, rfl, _, _⟩ := hr1.shape
    clear hr1 hb1
    go_wp2_with fail
    with_reducible refine (HPU.out _ _ (HR.out.kp kk1)).mono ?_
    rintro e w2 ⟨v2, rfl, ho2, hb2⟩
    have kk2 := Kp.of hb2
    have HR2 := hide ho2.rd
    clear ho2 hb2
    go_wp2_with fail
    with_reducible refine (HZR.out _ _ HR2.out (HDB.out.kp (kk1.trans kk2))).mono ?_
    rintro e w3 ⟨v3, u3, rfl, hr3, hu3, hb3⟩
    have kk3 := Kp.of hb3
    have HRZ := hide hr3
    obtain ⟨A3, c3, rfl, _, _⟩ := hr3.shape
    obtain ⟨B3, d3, rfl, _, _⟩ := hu3.shape
    clear hr3 hu3 hb3
    have K3 := kk1.trans (kk2.trans kk3)
    go_wp2_with fail
    with_reducible refine (zipLives_any _ (HDB.out.kp K3)).mono ?_
    rintro e w4 ⟨rfl, hb4⟩
    have kk4 := Kp.of hb4
    clear hb4
    go_wp2_with fail
    refine (ok_any [_, _] _ _ (RD.block (l := [_, _]) (heap_alloc_new w4 _) rfl (by simp [maxLen]))).mono ?_
    rintro e w5 ⟨rfl, hw5⟩
    have kk5 : Kp w4 w5 := by rw [← hw5]; exact (Kp.refl w4).alloc
    have K5 := K3.trans (kk4.trans kk5)
    have HRP := hide (HRP.out.kp (kk2.trans (kk3.trans (kk4.trans kk5))))
    have HRZ := hide (HRZ.out.kp (kk4.trans kk5))
    clear hw5 K3 kk1 kk2 kk3 kk4 kk5 HR2
    go_wp2_with fail
    with_reducible refine (zipLives_any _ (HDB.out.kp K5)).mono ?_
    rintro e w6 ⟨rfl, hb6⟩
    have kk6 := Kp.of hb6
    clear hb6
    go_wp2
    go_ret
    exact ⟨rfl, (K5.trans kk6).bel⟩
end Go.Proofs.YtfgbbmjnjppfnaaDoor
namespace Go.Proofs.YtfgbbmjnjppfnaaDoor
open Go.ChangeShapes Go.WideShapes Go.ChangeAt Go.RowKit Go.Deep
set_option linter.unusedVariables false
set_option linter.unusedSimpArgs false

theorem zipSkip_reads (os : Os) {H : Type} (enc : TypeId × Value → H) : ∃ places, DataW.whole enc Tryd.prog ((laidWorldZ os).forCall (fun _ _ => 0) ⟨#[], #[.slice none 0 0, .int .i64 0], []⟩).memory Tryd.f8.params.toList Rows.zipSkipSpec.vars false #[.slice none 0 0, .int .i64 0].toList 8 = some ([.nil, .lit (.int .i64 0)], [], places) :=
  ⟨[], by kernel_rfl⟩
set_option maxRecDepth 100000 in
theorem zipSkip_lifted (os : Os) (started : os.Started) (H : Type) (enc : TypeId × Value → H) (F : Stop.Interp) :
    ReturnsInHanded {} Tryd.checked os 8 .any ((Rows.OpenSpec.upto Rows.zipSkipSpec).preRow enc Tryd.prog Tryd.f8 Rows.zipSkipUptoRow.domain false Rows.zipSkipUptoRow.laid) (((Rows.OpenSpec.upto Rows.zipSkipSpec).at F).post enc Tryd.prog Tryd.f8 false true false false) := by
  obtain ⟨places, hx⟩ := zipSkip_reads os enc
  refine returnsInHanded_of_row (C := Tryd.checked) (s := Rows.OpenSpec.upto Rows.zipSkipSpec) own started (by kernel_rfl) Tryd.func8
    (witness_row_at (enc := enc) (C := Tryd.checked) false (laidWorldZ os) #[.slice none 0 0, .int .i64 0] rfl (by kernel_rfl) (by kernel_rfl) (by kernel_rfl)
      (OpenSpec.preRow_of_cond 8 hx (by kernel_rfl) (fun k hk => by cases hk; kernel_rfl) (by kernel_rfl) (laidZ_met os _))) ?_
  intro W base args ds gs before hval0 hW hcnd hsm hsz hL _ _
  have hsm := hsm _ rfl
  have hval : ∀ (j : Nat) t v, Tryd.f8.params[j]? = some t → args[j]? = some v → Value.okWide Tryd.prog W .any base t v := hval0
  have hW' := hW
  obtain ⟨p, q, hA0, hV, rfl, hfz, hnd⟩ := hW
  have hA : DataW.TrodAll enc Tryd.prog W 0 (fun _ => true) true Tryd.f8.params.toList args.toList ds p := hA0
  rw [Tryd.params8] at hA hval
  obtain ⟨v0, vs0, d0, ds0, p0, q0, hargs, rfl, rfl, h0, r0⟩ := trodAll_cons hA
  obtain ⟨v1, vs1, d1, ds1, p1, q1, rfl, rfl, rfl, h1, r1⟩ := trodAll_cons r0
  obtain ⟨rfl, rfl, rfl⟩ := trodAll_nil r1
  obtain rfl : args = #[v0, v1] := by cases args; simp_all
  obtain ⟨rfl, rfl⟩ := trodVars_none hV
  obtain ⟨a0, n0, c0, rfl⟩ := okWide_slice Tryd.underlying30 (hval 0 30 v0 rfl rfl)
  obtain ⟨n1, rfl⟩ := okWide_int Tryd.underlying3 (hval 1 3 v1 rfl rfl)
  have lt0 : ∀ x ∈ p0, x.block < W.heap.size := by obtain ⟨m, hm⟩ := h0; exact DataW.trod_lt m _ _ _ hm
  have lt1 : ∀ x ∈ p1, x.block < W.heap.size := by obtain ⟨m, hm⟩ := h1; exact DataW.trod_lt m _ _ _ hm
  obtain ⟨l0, w0⟩ := arg_ints h0
  have b0 : l0.length ≤ 1048576 := by
    obtain ⟨_, _, e, _⟩ := w0
    injection e with _ e _
    have u1 := ints_bulk h0
    have u2 := upto_part hsm (d := d0) (by simp)
    omega
  have w1 : -9223372036854775808 ≤ n1 ∧ n1 ≤ 9223372036854775807 := by obtain ⟨m, hm⟩ := h1; exact wf_i64 Tryd.underlying3 hm
  clear hA0 hval0
  refine (zipSkip_walk l0 n1 _ W w0 w1 b0 (db_of_laid hL)).mono fun e W' ⟨he, bel⟩ => ?_
  subst he
  exact ⟨_, rfl, _, _, _, [], _, [], hW', trodAll_mk1 (shut_bool Tryd.underlying4 _), (trodAll_cons_mk (Below.trod laidOut (by kernel_rfl) (of_decide_eq_true (by kernel_rfl)) h0 bel lt0) (trodAll_cons_mk (Below.trod laidOut (by kernel_rfl) (of_decide_eq_true (by kernel_rfl)) h1 bel lt1) trodAll_mk0)), rfl, bel.frame _, fun h => by cases h⟩

set_option maxRecDepth 100000 in
set_option maxHeartbeats 8000000 in
theorem zipSkip_closed : joinedFacts Tryd.checked.prog 8 Tryd.f8 (Rows.OpenSpec.upto Rows.zipSkipSpec).bare Rows.zipSkipUptoRow = true := by
  unfold joinedFacts
  repeat' (with_reducible refine and_true_of ?_ ?_)
  all_goals (as_aux_lemma => kernel_rfl)
theorem zipSkip_over : Rows.zipSkipUptoRow.holds Tryd.pinned (Rows.OpenSpec.upto Rows.zipSkipSpec) :=
  OpenClaim.holds_of_cond 8 Tryd.f8 rfl rfl rfl rfl rfl rfl rfl ⟨rfl, rfl, rfl, rfl, rfl⟩ rfl rfl rfl rfl rfl (by as_aux_lemma => kernel_rfl) Tryd.func8 zipSkip_closed
    (of_decide_eq_true (by as_aux_lemma => kernel_rfl)) (by as_aux_lemma => unfold Func.isWrapper; first | (rw [if_pos (by decide +kernel)]; kernel_rfl) | (rw [if_neg (by decide +kernel)]; exact ⟨rfl, rfl⟩))
    (fun os started H enc _ F => by rw [OpenClaim.pre_eq_preRow]; exact zipSkip_lifted os started H enc F)
set_option maxRecDepth 100000 in
theorem zipSkip_proved : Rows.ZipSkipUptoCardSaid :=
  Claim7.holds_tied_plain_at .later [] _ _ _ _ zipSkip_over (fun _ h => by cases h) (by kernel_rfl) (fun _ h => by cases h) zipSkipUpto_row_tie rfl ⟨rfl, rfl⟩ (by kernel_rfl) rfl
    (fun f fn hf hfn => by
      obtain rfl : f = 8 := Option.some.inj ((show Tryd.prog.funcNamed "hedgewright/hedgkeep.ZipSkip" = some 8 by kernel_rfl).symm.trans hf) |>.symm
      obtain rfl : fn = Tryd.f8 := (Option.some.inj (Tryd.func8.symm.trans hfn)).symm
      exact ⟨by kernel_rfl, fun j t ht => by
        have h : (Tryd.f8.params.toList.all fun t => !Tryd.prog.wantsStandIn t) = true := by kernel_rfl
        have hm : t ∈ Tryd.f8.params.toList := by
          rw [Array.mem_toList_iff]
          exact Array.mem_of_getElem? ht
        have h2 : Tryd.prog.wantsStandIn t = false := by simpa using List.all_eq_true.1 h t hm
        exact h2⟩)
    (by kernel_rfl)
#print axioms zipSkip_proved
end Go.Proofs.YtfgbbmjnjppfnaaDoor
