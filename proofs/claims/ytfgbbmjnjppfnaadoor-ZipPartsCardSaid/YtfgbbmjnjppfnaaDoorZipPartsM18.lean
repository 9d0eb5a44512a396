/-
  hedglaw.ZipParts: the walk: it answers true. Conditions: the lists read as a, b (RD), of fewer than 2^43 spots; the table of math/bits holds what it is laid with (DTb).
-/
import Derived.Test.YtfgbbmjnjppfnaaDoorZipPartsM17

namespace Go.Proofs.YtfgbbmjnjppfnaaDoor
open Go.ChangeShapes Go.WideShapes Go.ChangeAt Go.RowKit
set_option linter.unusedVariables false
set_option linter.unusedSimpArgs false

def nuI (L : List Int) (k : Nat) : Int := cond (notUp L k) 3 0
def ZaRel (L : List Int) (w : World) (sv iv : Value) (wr : World) : Prop := ∃ k : Nat, k ≤ L.length ∧ iv = .int .i64 k ∧ sv = .int .i64 (nuI L k) ∧ Kp w wr
set_option maxRecDepth 100000 in
set_option maxHeartbeats 8000000 in
theorem zipParts_walk (a b : List IP) (key : Int) (va vb : Value) (w : World) (hra : RD w ePair va a) (hrb : RD w ePair vb b) (hdb : DTb w) (hla : a.length ≤ 8796093022000) (hlb : b.length ≤ 8796093022000) : Calls Tryd.prog 3 #[va, vb, .int .i64 key] w (Ret (.bool true) w) := by
  obtain ⟨A, c, rfl, hc, hm⟩ := hra.shape
  obtain ⟨B, d, rfl, hd, hn⟩ := hrb.shape
  have HRA := hide hra
  have HRB := hide hrb
  have HDB := hide hdb
  have HSPL := hide (fun W v h hd => zipSplit_any a key v W h hd)
  have HMRG := hide (fun W va vb ha hb hd => zipMerge_any a b va vb W ha hb hd)
  have HZ1 := hide (fun v W h => zipRight_any [a] v W h)
  have HZ2 := hide (fun v W h => zipRight_any [a, b] v W h)
  have HKA := hide (fun v W h => spotKeys_any a v W h (by omega))
  have HKB := hide (fun v W h => spotKeys_any b v W h (by omega))
  have hsp := split_says a key
  have hmg := merge_says a b
  rw [msay] at hmg
  have hal : zrR [a] = 0 → a.length ≤ 200 := fun h => by
    rw [zrR_one] at h
    exact (readZ_facts h).2.2.1
  obtain ⟨⟨L1, M1, q1⟩, hP1⟩ : ∃ P, P = splitZ a key := ⟨_, rfl⟩
  obtain ⟨⟨ml, q2⟩, hP2⟩ : ∃ P, P = mergeZ a b := ⟨_, rfl⟩
  rw [← hP1] at hsp HSPL
  rw [← hP2] at hmg HMRG
  obtain ⟨z1, hz1⟩ : ∃ z, z = zrR [a] := ⟨_, rfl⟩
  obtain ⟨z2, hz2⟩ : ∃ z, z = zrR [a, b] := ⟨_, rfl⟩
  rw [← hz1] at hsp HZ1 hal
  rw [← hz2] at hmg HZ2
  obtain ⟨L, hL⟩ : ∃ L, L = (a ++ b).map Prod.fst := ⟨_, rfl⟩
  rw [← hL] at hmg
  have HLL2 : Hid (L.length = a.length + b.length) := hide (by rw [hL]; simp)
  have HLL : Hid (L.length ≤ 17592186044000) := hide (by have := HLL2.out; omega)
  have hmap : a.map Prod.fst ++ b.map Prod.fst = L := by rw [hL, List.map_append]
  have hkal : (a.map Prod.fst).length = a.length := List.length_map ..
  have hkbl : (b.map Prod.fst).length = b.length := List.length_map ..
  obtain ⟨ka, hka⟩ : ∃ k, k = a.map Prod.fst := ⟨_, rfl⟩
  obtain ⟨kb, hkb⟩ : ∃ k, k = b.map Prod.fst := ⟨_, rfl⟩
  rw [← hka] at hmap HKA hsp hkal
  rw [← hkb] at hmap HKB hkbl
  have HL := hide hmap
  have HM1 : Hid ((ka.length + kb.length) * 8 ≤ 140737488355328) := hide (by omega)
  have HM2 : Hid (ka.length + kb.length ≤ maxLen) := hide (by simp [maxLen]; omega)
  have HMS : Hid ((z2 ≠ 0 ∧ ml = [] ∧ q2 = z2) ∨ (z2 = 0 ∧ notUp L L.length = true ∧ ml = [] ∧ q2 = 3) ∨ (z2 = 0 ∧ notUp L L.length = false ∧ 200 < a.length + b.length ∧ ml = [] ∧ q2 = 2) ∨ (z2 = 0 ∧ notUp L L.length = false ∧ ¬ 200 < a.length + b.length ∧ ml = (heapTree (L.map zk)).spots 0 ∧ q2 = 0)) := hide (by
    by_cases h1 : z2 = 0
    · cases h2 : notUp L L.length with
      | true => simp [h1, h2] at hmg; exact .inr (.inl ⟨h1, rfl, hmg.1, hmg.2⟩)
      | false =>
        by_cases h3 : 200 < a.length + b.length
        · simp [h1, h2, h3] at hmg; exact .inr (.inr (.inl ⟨h1, rfl, h3, hmg.1, hmg.2⟩))
        · simp [h1, h2, h3] at hmg; exact .inr (.inr (.inr ⟨h1, rfl, h3, hmg.1, hmg.2⟩))
    · simp [h1] at hmg; exact .inl ⟨h1, hmg.1, hmg.2⟩)
  have HSP := hide hsp
  have HAL := hide hal
  have HKL := hide hkal
  obtain ⟨la, hla2⟩ : ∃ n, n = a.length := ⟨_, rfl⟩
  obtain ⟨lb, hlb2⟩ : ∃ n, n = b.length := ⟨_, rfl⟩
  rw [← hla2] at HMS HLL2 HAL HKL hc
  rw [← hlb2] at HMS HLL2 hd
  clear hra hrb hdb hsp hmg hP1 hP2 hz1 hz2 hL hmap hka hkb hal hkal hkbl hla2 hlb2
  go_enter Tryd.func3, Tryd.ntmps3
  go_wp2_with fail
  with_reducible refine (HSPL.out _ _ HRA.out HDB.out).mono ?_
  rintro e w1 ⟨v1, u1, rfl, hr1, hu1, hb1⟩
  have kk1 : Kp w w1 := Kp.of hb1
  have HR1 := hide hr1
  have HU1 := hide hu1
  clear hr1 hu1 hb1
  go_wp2_with fail
  with_reducible refine (HMRG.out _ _ _ (HRA.out.kp kk1) (HRB.out.kp kk1) (HDB.out.kp kk1)).mono ?_
  rintro e w2 ⟨v2, rfl, hrm, hb2⟩
  have kk2 : Kp w1 w2 := Kp.of hb2
  clear hb2
  obtain ⟨A2, c2, rfl, hc2, hm2⟩ := hrm.shape
  obtain ⟨A1, c1, rfl, hc1, hm1⟩ := HR1.out.shape
  obtain ⟨A3, c3, rfl, hc3, hm3⟩ := HU1.out.shape
  go_wp2_with fail
  with_reducible refine (HZ1.out _ _ (RDS.new1 (by simp) (HRA.out.kp (kk1.trans kk2)))).mono ?_
  rintro e w3 ⟨rfl, hb3⟩
  have kk3 : Kp w2 w3 := (Kp.refl _).alloc.trans (Kp.of hb3)
  clear hb3
  have K3 := kk1.trans (kk2.trans kk3)
  by_cases hz1 : z1 = 0
  · subst hz1
    have hsp := HSP.out
    rw [if_neg (by simp)] at hsp
    cases hbt : btw key 0 1000000 with
    | false =>
      rw [if_pos hbt] at hsp
      simp only [Prod.mk.injEq] at hsp
      obtain ⟨rfl, rfl, rfl⟩ := hsp
      have HBT := hide hbt
      clear hbt
      go_wp2_with (go_at_call 12; refine (between_to _ _ _ false _ HBT.out).mono ?_; rintro e w' ⟨rfl, rfl⟩)
      go_wp2_with fail
      with_reducible refine (HZ2.out _ _ (RDS.new2 (by simp) (HRA.out.kp K3) (HRB.out.kp K3))).mono ?_
      rintro e wa ⟨rfl, hba⟩
      have KA := (K3).trans ((Kp.refl _).alloc.trans (Kp.of hba))
      have KAM := (kk3).trans ((Kp.refl _).alloc.trans (Kp.of hba))
      clear hba
      go_wp2_with fail
      with_reducible refine (HKA.out _ _ (HRA.out.kp KA)).mono ?_
      rintro e wb ⟨vb1, rfl, hob, hbb⟩
      have kkb : Kp wa wb := Kp.of hbb
      have HOB := hide hob
      obtain ⟨A71, N71, c71, rfl⟩ := hob.rd.slice
      clear hob hbb
      go_wp2_with fail
      with_reducible refine (HKB.out _ _ (HRB.out.kp (KA.trans kkb))).mono ?_
      rintro e wc ⟨vc1, rfl, hoc, hbc⟩
      have kkc : Kp wb wc := Kp.of hbc
      have HOC := hide hoc.rd
      obtain ⟨A72, N72, c72, rfl⟩ := hoc.rd.slice
      have hib : Hi wa.heap.size (.slice A71 N71 c71) := HOB.out.hi
      clear hoc hbc
      rcases HMS.out with ⟨hz2, rfl, rfl⟩ | ⟨rfl, hu, rfl, rfl⟩ | ⟨rfl, hu, hlg, rfl, rfl⟩ | ⟨rfl, hu, hlg, hm1, rfl⟩
      · have g1 : (q2 == 0) = false := by simpa using hz2
        have g2 : (q2 != 0) = true := by simpa using hz2
        clear hz2
        go_wp2_with ((at_builtin; (with_reducible refine list_app (B := wa.heap.size) (l := ka) (m := kb) row_int (.slice A71 N71 c71) ?_ (.tmp 99) (.tmp 101) ?_ ?_ ?_ ?_ HM1.out HM2.out ?_ ?_); (with_reducible rfl); (with_reducible rfl); rfl; (exact HOB.out.kp kkc); (show RD _ _ (.slice A72 N72 c72) _; exact HOC.out); (exact (kkb.trans kkc).size); intro vd wd hod hgd hatd); have hodL : RD wd eInt vd L := (by rw [← HL.out]; exact hod.rd); obtain ⟨A73, c73, rfl, hc73, hm73⟩ := hodL.shape)
        have KD : Kp wa wd := Kp.app hgd (kkb.trans kkc) hib
        have KDW := KA.trans KD
        have KDM := KAM.trans KD
        have HOD := hide hodL
        have HRM := hide (hrm.kp KDM)
        clear HOB HOC hib hod hodL hgd hatd KD KA KAM
        go_wp2
        go_ret
        exact ⟨rfl, KDW.bel⟩
      · go_wp2_with ((at_builtin; (with_reducible refine list_app (B := wa.heap.size) (l := ka) (m := kb) row_int (.slice A71 N71 c71) ?_ (.tmp 99) (.tmp 101) ?_ ?_ ?_ ?_ HM1.out HM2.out ?_ ?_); (with_reducible rfl); (with_reducible rfl); rfl; (exact HOB.out.kp kkc); (show RD _ _ (.slice A72 N72 c72) _; exact HOC.out); (exact (kkb.trans kkc).size); intro vd wd hod hgd hatd); have hodL : RD wd eInt vd L := (by rw [← HL.out]; exact hod.rd); obtain ⟨A73, c73, rfl, hc73, hm73⟩ := hodL.shape)
        have KD : Kp wa wd := Kp.app hgd (kkb.trans kkc) hib
        have KDW := KA.trans KD
        have KDM := KAM.trans KD
        have HOD := hide hodL
        have HRM := hide (hrm.kp KDM)
        clear HOB HOC hib hod hodL hgd hatd KD KA KAM
        go_loopw [12, 107] (ZaRel L wd) (fun _ i _ => L.length - (intOf i).toNat)
        case atStart => exact ⟨0, by omega, rfl, rfl, Kp.refl _⟩
        case round =>
          obtain ⟨k, hk, rfl, rfl, hkp⟩ := hrel
          by_cases hlt : k < L.length
          · obtain ⟨b1, o1, rfl, hbl, c0⟩ := (HOD.out.kp hkp).int hlt
            have HNS := hide (notUp_succ L k)
            have HHU := hide hu
            clear hu
            by_cases hk0 : 0 < k
            · obtain ⟨p, hp⟩ : ∃ p, p + 1 = k := ⟨k - 1, by omega⟩
              obtain ⟨b2, o2, e2, _, c1⟩ := (HOD.out.kp hkp).int (k := p) (by omega)
              injection e2 with e2
              injection e2 with e2 e3
              subst e2 e3
              have hgk : L.getD k 0 = L[k] := by simp [List.getD_eq_getElem?_getD, List.getElem?_eq_getElem hlt]
              have hgp : L.getD (k - 1) 0 = L[p]'(by omega) := by rw [show k - 1 = p from by omega]; simp [List.getD_eq_getElem?_getD, List.getElem?_eq_getElem (show p < L.length by omega)]
              have hns := HNS.out
              rw [hgk, hgp, decide_eq_true hk0, Bool.true_and] at hns
              obtain ⟨y, hy⟩ : ∃ y, y = L[k] := ⟨_, rfl⟩
              obtain ⟨x, hx⟩ : ∃ x, x = L[p]'(by omega) := ⟨_, rfl⟩
              rw [← hy] at c0 hns
              rw [← hx] at c1 hns
              have HNS2 := hide hns
              have s1 : IntKind.i64.wrap ((k : Int) - 1) = (p : Int) := by rw [IntWalk.i64_in _ (by have := HLL.out; omega)]; omega
              have g1 : decide ((0 : Int) < (k : Int)) = true := by simp; omega
              have g2 : decide (0 < k) = true := by simp; omega
              have gp : p < L.length := by omega
              clear hgk hgp hns hy hx HNS hp
              by_cases hle : y ≤ x
              · have d1 : decide (y ≤ x) = true := decide_eq_true hle
                have HNS3 : Hid (notUp L (k + 1) = true) := hide (by rw [HNS2.out, d1]; simp)
                clear HNS2
                go_wp2_with fail
                go_quiet (fail)
                go_wp2
                go_roundw
                case rel => exact ⟨k + 1, by omega, by go_num, by simp only [nuI, HNS3.out, cond], hkp.drewN⟩
                case measure => simp [intOf]; omega
              · have d1 : decide (y ≤ x) = false := decide_eq_false hle
                have HNS3 : Hid (notUp L (k + 1) = notUp L k) := hide (by rw [HNS2.out, d1]; simp)
                clear HNS2
                go_wp2_with fail
                go_quiet (fail)
                go_wp2
                go_roundw
                case rel => exact ⟨k + 1, by omega, by go_num, by simp only [nuI, HNS3.out], hkp.drewN⟩
                case measure => simp [intOf]; omega
            · obtain rfl : k = 0 := by omega
              have HNS3 : Hid (notUp L (0 + 1) = notUp L 0) := hide (by rw [HNS.out]; simp)
              clear HNS
              go_wp2_with fail
              go_quiet (fail)
              go_wp2
              go_roundw
              case rel => exact ⟨0 + 1, by omega, by go_num, by simp only [nuI, HNS3.out], hkp.drewN⟩
              case measure => simp [intOf]; omega
          · obtain rfl : k = L.length := by omega
            rw [nuI, hu, cond]
            clear hu
            go_wp2
            go_ret
            exact ⟨rfl, (KDW.trans hkp).bel⟩
      · go_wp2_with ((at_builtin; (with_reducible refine list_app (B := wa.heap.size) (l := ka) (m := kb) row_int (.slice A71 N71 c71) ?_ (.tmp 99) (.tmp 101) ?_ ?_ ?_ ?_ HM1.out HM2.out ?_ ?_); (with_reducible rfl); (with_reducible rfl); rfl; (exact HOB.out.kp kkc); (show RD _ _ (.slice A72 N72 c72) _; exact HOC.out); (exact (kkb.trans kkc).size); intro vd wd hod hgd hatd); have hodL : RD wd eInt vd L := (by rw [← HL.out]; exact hod.rd); obtain ⟨A73, c73, rfl, hc73, hm73⟩ := hodL.shape)
        have KD : Kp wa wd := Kp.app hgd (kkb.trans kkc) hib
        have KDW := KA.trans KD
        have KDM := KAM.trans KD
        have HOD := hide hodL
        have HRM := hide (hrm.kp KDM)
        clear HOB HOC hib hod hodL hgd hatd KD KA KAM
        go_loopw [12, 107] (ZaRel L wd) (fun _ i _ => L.length - (intOf i).toNat)
        case atStart => exact ⟨0, by omega, rfl, rfl, Kp.refl _⟩
        case round =>
          obtain ⟨k, hk, rfl, rfl, hkp⟩ := hrel
          by_cases hlt : k < L.length
          · obtain ⟨b1, o1, rfl, hbl, c0⟩ := (HOD.out.kp hkp).int hlt
            have HNS := hide (notUp_succ L k)
            have HHU := hide hu
            clear hu
            by_cases hk0 : 0 < k
            · obtain ⟨p, hp⟩ : ∃ p, p + 1 = k := ⟨k - 1, by omega⟩
              obtain ⟨b2, o2, e2, _, c1⟩ := (HOD.out.kp hkp).int (k := p) (by omega)
              injection e2 with e2
              injection e2 with e2 e3
              subst e2 e3
              have hgk : L.getD k 0 = L[k] := by simp [List.getD_eq_getElem?_getD, List.getElem?_eq_getElem hlt]
              have hgp : L.getD (k - 1) 0 = L[p]'(by omega) := by rw [show k - 1 = p from by omega]; simp [List.getD_eq_getElem?_getD, List.getElem?_eq_getElem (show p < L.length by omega)]
              have hns := HNS.out
              rw [hgk, hgp, decide_eq_true hk0, Bool.true_and] at hns
              obtain ⟨y, hy⟩ : ∃ y, y = L[k] := ⟨_, rfl⟩
              obtain ⟨x, hx⟩ : ∃ x, x = L[p]'(by omega) := ⟨_, rfl⟩
              rw [← hy] at c0 hns
              rw [← hx] at c1 hns
              have HNS2 := hide hns
              have s1 : IntKind.i64.wrap ((k : Int) - 1) = (p : Int) := by rw [IntWalk.i64_in _ (by have := HLL.out; omega)]; omega
              have g1 : decide ((0 : Int) < (k : Int)) = true := by simp; omega
              have g2 : decide (0 < k) = true := by simp; omega
              have gp : p < L.length := by omega
              clear hgk hgp hns hy hx HNS hp
              by_cases hle : y ≤ x
              · have d1 : decide (y ≤ x) = true := decide_eq_true hle
                have HNS3 : Hid (notUp L (k + 1) = true) := hide (by rw [HNS2.out, d1]; simp)
                clear HNS2
                go_wp2_with fail
                go_quiet (fail)
                go_wp2
                go_roundw
                case rel => exact ⟨k + 1, by omega, by go_num, by simp only [nuI, HNS3.out, cond], hkp.drewN⟩
                case measure => simp [intOf]; omega
              · have d1 : decide (y ≤ x) = false := decide_eq_false hle
                have HNS3 : Hid (notUp L (k + 1) = notUp L k) := hide (by rw [HNS2.out, d1]; simp)
                clear HNS2
                go_wp2_with fail
                go_quiet (fail)
                go_wp2
                go_roundw
                case rel => exact ⟨k + 1, by omega, by go_num, by simp only [nuI, HNS3.out], hkp.drewN⟩
                case measure => simp [intOf]; omega
            · obtain rfl : k = 0 := by omega
              have HNS3 : Hid (notUp L (0 + 1) = notUp L 0) := hide (by rw [HNS.out]; simp)
              clear HNS
              go_wp2_with fail
              go_quiet (fail)
              go_wp2
              go_roundw
              case rel => exact ⟨0 + 1, by omega, by go_num, by simp only [nuI, HNS3.out], hkp.drewN⟩
              case measure => simp [intOf]; omega
          · obtain rfl : k = L.length := by omega
            rw [nuI, hu, cond]
            have hl2 : 200 < L.length := by have := HLL2.out; omega
            clear hu
            go_wp2
            go_ret
            exact ⟨rfl, (KDW.trans hkp).bel⟩
      · have HM := hide hm1
        clear hm1
        go_wp2_with ((at_builtin; (with_reducible refine list_app (B := wa.heap.size) (l := ka) (m := kb) row_int (.slice A71 N71 c71) ?_ (.tmp 99) (.tmp 101) ?_ ?_ ?_ ?_ HM1.out HM2.out ?_ ?_); (with_reducible rfl); (with_reducible rfl); rfl; (exact HOB.out.kp kkc); (show RD _ _ (.slice A72 N72 c72) _; exact HOC.out); (exact (kkb.trans kkc).size); intro vd wd hod hgd hatd); have hodL : RD wd eInt vd L := (by rw [← HL.out]; exact hod.rd); obtain ⟨A73, c73, rfl, hc73, hm73⟩ := hodL.shape)
        have KD : Kp wa wd := Kp.app hgd (kkb.trans kkc) hib
        have KDW := KA.trans KD
        have KDM := KAM.trans KD
        have HOD := hide hodL
        have HRM := hide (hrm.kp KDM)
        clear HOB HOC hib hod hodL hgd hatd KD KA KAM
        go_loopw [12, 107] (ZaRel L wd) (fun _ i _ => L.length - (intOf i).toNat)
        case atStart => exact ⟨0, by omega, rfl, rfl, Kp.refl _⟩
        case round =>
          obtain ⟨k, hk, rfl, rfl, hkp⟩ := hrel
          by_cases hlt : k < L.length
          · obtain ⟨b1, o1, rfl, hbl, c0⟩ := (HOD.out.kp hkp).int hlt
            have HNS := hide (notUp_succ L k)
            have HHU := hide hu
            clear hu
            by_cases hk0 : 0 < k
            · obtain ⟨p, hp⟩ : ∃ p, p + 1 = k := ⟨k - 1, by omega⟩
              obtain ⟨b2, o2, e2, _, c1⟩ := (HOD.out.kp hkp).int (k := p) (by omega)
              injection e2 with e2
              injection e2 with e2 e3
              subst e2 e3
              have hgk : L.getD k 0 = L[k] := by simp [List.getD_eq_getElem?_getD, List.getElem?_eq_getElem hlt]
              have hgp : L.getD (k - 1) 0 = L[p]'(by omega) := by rw [show k - 1 = p from by omega]; simp [List.getD_eq_getElem?_getD, List.getElem?_eq_getElem (show p < L.length by omega)]
              have hns := HNS.out
              rw [hgk, hgp, decide_eq_true hk0, Bool.true_and] at hns
              obtain ⟨y, hy⟩ : ∃ y, y = L[k] := ⟨_, rfl⟩
              obtain ⟨x, hx⟩ : ∃ x, x = L[p]'(by omega) := ⟨_, rfl⟩
              rw [← hy] at c0 hns
              rw [← hx] at c1 hns
              have HNS2 := hide hns
              have s1 : IntKind.i64.wrap ((k : Int) - 1) = (p : Int) := by rw [IntWalk.i64_in _ (by have := HLL.out; omega)]; omega
              have g1 : decide ((0 : Int) < (k : Int)) = true := by simp; omega
              have g2 : decide (0 < k) = true := by simp; omega
              have gp : p < L.length := by omega
              clear hgk hgp hns hy hx HNS hp
              by_cases hle : y ≤ x
              · have d1 : decide (y ≤ x) = true := decide_eq_true hle
                have HNS3 : Hid (notUp L (k + 1) = true) := hide (by rw [HNS2.out, d1]; simp)
                clear HNS2
                go_wp2_with fail
                go_quiet (fail)
                go_wp2
                go_roundw
                case rel => exact ⟨k + 1, by omega, by go_num, by simp only [nuI, HNS3.out, cond], hkp.drewN⟩
                case measure => simp [intOf]; omega
              · have d1 : decide (y ≤ x) = false := decide_eq_false hle
                have HNS3 : Hid (notUp L (k + 1) = notUp L k) := hide (by rw [HNS2.out, d1]; simp)
                clear HNS2
                go_wp2_with fail
                go_quiet (fail)
                go_wp2
                go_roundw
                case rel => exact ⟨k + 1, by omega, by go_num, by simp only [nuI, HNS3.out], hkp.drewN⟩
                case measure => simp [intOf]; omega
            · obtain rfl : k = 0 := by omega
              have HNS3 : Hid (notUp L (0 + 1) = notUp L 0) := hide (by rw [HNS.out]; simp)
              clear HNS
              go_wp2_with fail
              go_quiet (fail)
              go_wp2
              go_roundw
              case rel => exact ⟨0 + 1, by omega, by go_num, by simp only [nuI, HNS3.out], hkp.drewN⟩
              case measure => simp [intOf]; omega
          · obtain rfl : k = L.length := by omega
            rw [nuI, hu, cond]
            have hl2 : L.length ≤ 200 := by have := HLL2.out; omega
            have hl3 : ¬ 200 < L.length := by omega
            clear hu
            go_wp2_with fail
            with_reducible refine (zipTree_any L _ _ (HOD.out.kp hkp) (by omega)).mono ?_
            rintro e we ⟨pe, rfl, hte, hbe⟩
            have kke := Kp.of hbe
            have HTE := hide hte
            clear hte hbe
            go_wp2_with fail
            with_reducible refine (spots_any (heapTree (L.map zk)) pe 0 _ HTE.out (by omega) (by rw [heapTree_size]; simp; omega)).mono ?_
            rintro e wf ⟨vf, rfl, hof, hbf⟩
            have kkf : Kp we wf := Kp.of hbf
            have HOF := hide hof.rd
            clear hof hbf
            go_wp2_with fail
            with_reducible refine (sameSpots_to ml ((heapTree (L.map zk)).spots 0) true _ _ _ (HRM.out.kp (hkp.trans (kke.trans kkf))) HOF.out (by rw [HM.out]; simp)).mono ?_
            rintro e wg ⟨rfl, hbg⟩
            have kkg : Kp wf wg := Kp.of hbg
            clear hbg
            go_wp2
            go_ret
            exact ⟨rfl, (KDW.trans (hkp.trans (kke.trans (kkf.trans kkg)))).bel⟩
    | true =>
      rw [if_neg (by simp [hbt])] at hsp
      simp only [Prod.mk.injEq] at hsp
      obtain ⟨e1, e2, rfl⟩ := hsp
      have HE1 := hide e1
      have HE2 := hide e2
      have HBT := hide hbt
      have hkal : ka.length ≤ 200 := by have := HKL.out; have := HAL.out rfl; omega
      clear hbt e1 e2
      go_wp2_with (go_at_call 12; refine (between_to _ _ _ true _ HBT.out).mono ?_; rintro e w' ⟨rfl, rfl⟩)
      with_reducible refine (HKA.out _ _ (HRA.out.kp K3)).mono ?_
      rintro e w4 ⟨v4, rfl, ho4, hb4⟩
      have kk4 : Kp w3 w4 := Kp.of hb4
      have HO4 := hide ho4.rd
      clear ho4 hb4
      obtain ⟨A4, c4, rfl, hc4, hm4⟩ := HO4.out.shape
      go_wp2
      go_loopw [13, 14, 60] (SoRel key ka w4) (fun _ _ i _ => ka.length - (intOf i).toNat)
      case atStart => exact ⟨0, by omega, rfl, OW.nil, OW.nil, fun k h => by simp [Value.ownBlock] at h, Kp.refl _⟩
      case round =>
        obtain ⟨k, hk, rfl, hol, hom, hdis, hkp⟩ := hrel
        by_cases hlt : k < ka.length
        · obtain ⟨b', o', rfl, _, c1⟩ := (HO4.out.kp hkp).int hlt
          have hil := hol.hi
          have him := hom.hi
          have hll := lessL_len key (ka.take k)
          have hml := moreL_len key (ka.take k)
          have hs1 := lessL_snoc key ka k hlt
          have hs2 := moreL_snoc key ka k hlt
          obtain ⟨X, hX⟩ : ∃ X, X = lessL key (ka.take k) := ⟨_, rfl⟩
          obtain ⟨Y, hY⟩ : ∃ Y, Y = moreL key (ka.take k) := ⟨_, rfl⟩
          obtain ⟨y, hy⟩ : ∃ y, y = ka[k] := ⟨_, rfl⟩
          rw [← hX] at hol hs1 hll
          rw [← hY] at hom hs2 hml
          rw [← hy] at c1 hs1 hs2
          have hxl : X.length ≤ 1000 := by simp at hll; omega
          have hyl : Y.length ≤ 1000 := by simp at hml; omega
          have HLOL := hide hol.lo
          have HLOM := hide hom.lo
          obtain ⟨A5, c5, rfl, hc5, hm5⟩ := hol.rd.shape
          obtain ⟨A6, c6, rfl, hc6, hm6⟩ := hom.rd.shape
          have HOL := hide hol
          have HOM := hide hom
          have HDIS := hide hdis
          clear hll hml hX hY hy hol hom hdis
          by_cases hyx : y < key
          · rw [if_pos hyx] at hs1
            rw [if_pos hyx, List.append_nil] at hs2
            have HS1 := hide hs1
            have HS2 := hide hs2
            have HM1 : Hid ((X.length + [y].length) * 8 ≤ 140737488355328) := hide (by simp; omega)
            have HM2 : Hid (X.length + [y].length ≤ maxLen) := hide (by simp [maxLen]; omega)
            have d1 : decide (y < key) = true := by simp; omega
            clear hs1 hs2
            go_wp2_with (at_builtin; (with_reducible refine list_app (B := w4.heap.size) (l := X) (m := [y]) row_int (.slice A5 X.length c5) ?_ (.tmp 67) (.tmp 69) ?_ ?_ ?_ ?_ HM1.out HM2.out ?_ ?_); (with_reducible rfl); (with_reducible rfl); rfl; (exact HOL.out.alloc _); (show RD _ _ (.slice (some ⟨_, 0, none⟩) 1 1) _; (first | exact RD.new1 _ rfl | (refine RD.new1e _ ?_ rfl; simp; done))); (exact (hkp.alloc).size); intro v7 w7 ho7 hg7 hat7)
            go_roundw
            case rel => exact ⟨k + 1, by omega, by go_num, by rw [HS1.out]; exact ho7, by rw [HS2.out]; exact (HOM.out.alloc _).kept hg7 HDIS.out.symm.or, HDIS.out.next hat7 (HLOM.out.mono (by simp)), Kp.app hg7 hkp.alloc hil⟩
            case measure => simp [intOf]; omega
          · rw [if_neg hyx, List.append_nil] at hs1
            rw [if_neg hyx] at hs2
            have HS1 := hide hs1
            have HS2 := hide hs2
            have HM1 : Hid ((Y.length + [y].length) * 8 ≤ 140737488355328) := hide (by simp; omega)
            have HM2 : Hid (Y.length + [y].length ≤ maxLen) := hide (by simp [maxLen]; omega)
            have d1 : decide (y < key) = false := by simp; omega
            clear hs1 hs2 hyx
            go_wp2_with (at_builtin; (with_reducible refine list_app (B := w4.heap.size) (l := Y) (m := [y]) row_int (.slice A6 Y.length c6) ?_ (.tmp 71) (.tmp 73) ?_ ?_ ?_ ?_ HM1.out HM2.out ?_ ?_); (with_reducible rfl); (with_reducible rfl); rfl; (exact HOM.out.alloc _); (show RD _ _ (.slice (some ⟨_, 0, none⟩) 1 1) _; (first | exact RD.new1 _ rfl | (refine RD.new1e _ ?_ rfl; simp; done))); (exact (hkp.alloc).size); intro v7 w7 ho7 hg7 hat7)
            go_roundw
            case rel => exact ⟨k + 1, by omega, by go_num, by rw [HS1.out]; exact (HOL.out.alloc _).kept hg7 HDIS.out.or, by rw [HS2.out]; exact ho7, (HDIS.out.symm.next hat7 (HLOL.out.mono (by simp))).symm, Kp.app hg7 hkp.alloc him⟩
            case measure => simp [intOf]; omega
        · have hS : ka.take k = ka := List.take_of_length_le (by omega)
          rw [hS] at hol hom
          have HOL := hide hol.rd
          have HOM := hide hom.rd
          have hxl := lessL_len key ka
          have hyl := moreL_len key ka
          clear hS hol hom hdis
          have HX : Hid (L1 = (heapTree ((lessL key ka).map zk)).spots 0) := hide HE1.out
          have HY : Hid (M1 = (heapTree ((moreL key ka).map zk)).spots 0) := hide HE2.out
          obtain ⟨X, hX⟩ : ∃ X, X = lessL key ka := ⟨_, rfl⟩
          obtain ⟨Y, hY⟩ : ∃ Y, Y = moreL key ka := ⟨_, rfl⟩
          rw [← hX] at HOL HX hxl
          rw [← hY] at HOM HY hyl
          clear hX hY HE1 HE2
          go_wp2_with fail
          with_reducible refine (zipTree_any X _ _ HOL.out (by omega)).mono ?_
          rintro e w5 ⟨p5, rfl, ht5, hb5⟩
          have kk5 := Kp.of hb5
          have HT5 := hide ht5
          clear ht5 hb5
          go_wp2_with fail
          with_reducible refine (spots_any (heapTree (X.map zk)) p5 0 _ HT5.out (by omega) (by rw [heapTree_size]; simp; omega)).mono ?_
          rintro e w6 ⟨v6, rfl, ho6, hb6⟩
          have kk6 : Kp w5 w6 := Kp.of hb6
          have HO6 := hide ho6.rd
          clear ho6 hb6
          go_wp2_with fail
          with_reducible refine (sameSpots_to L1 ((heapTree (X.map zk)).spots 0) true _ _ _ (HR1.out.kp (kk2.trans (kk3.trans (kk4.trans (hkp.trans (kk5.trans kk6)))))) HO6.out (by rw [HX.out]; simp)).mono ?_
          rintro e w7 ⟨rfl, hb7⟩
          have kk7 : Kp w6 w7 := Kp.of hb7
          clear hb7
          have K57 := kk5.trans (kk6.trans kk7)
          go_wp2_with fail
          with_reducible refine (zipTree_any Y _ _ (HOM.out.kp K57) (by omega)).mono ?_
          rintro e w8 ⟨p8, rfl, ht8, hb8⟩
          have kk8 : Kp w7 w8 := Kp.of hb8
          have HT8 := hide ht8
          clear ht8 hb8
          go_wp2_with fail
          with_reducible refine (spots_any (heapTree (Y.map zk)) p8 0 _ HT8.out (by omega) (by rw [heapTree_size]; simp; omega)).mono ?_
          rintro e w9 ⟨v9, rfl, ho9, hb9⟩
          have kk9 : Kp w8 w9 := Kp.of hb9
          have HO9 := hide ho9.rd
          clear ho9 hb9
          have K79 := kk8.trans kk9
          go_wp2_with fail
          with_reducible refine (sameSpots_to M1 ((heapTree (Y.map zk)).spots 0) true _ _ _ (HU1.out.kp (kk2.trans (kk3.trans (kk4.trans (hkp.trans (K57.trans K79)))))) HO9.out (by rw [HY.out]; simp)).mono ?_
          rintro e w10 ⟨rfl, hb10⟩
          have kk10 : Kp w9 w10 := Kp.of hb10
          clear hb10
          have K10 := kk4.trans (hkp.trans (K57.trans (K79.trans kk10)))
          go_wp2_with fail
          with_reducible refine (HZ2.out _ _ (RDS.new2 (by simp) (HRA.out.kp (K3.trans K10)) (HRB.out.kp (K3.trans K10)))).mono ?_
          rintro e wa ⟨rfl, hba⟩
          have KA := ((K3.trans K10)).trans ((Kp.refl _).alloc.trans (Kp.of hba))
          have KAM := ((kk3.trans K10)).trans ((Kp.refl _).alloc.trans (Kp.of hba))
          clear hba
          go_wp2_with fail
          with_reducible refine (HKA.out _ _ (HRA.out.kp KA)).mono ?_
          rintro e wb ⟨vb1, rfl, hob, hbb⟩
          have kkb : Kp wa wb := Kp.of hbb
          have HOB := hide hob
          obtain ⟨A71, N71, c71, rfl⟩ := hob.rd.slice
          clear hob hbb
          go_wp2_with fail
          with_reducible refine (HKB.out _ _ (HRB.out.kp (KA.trans kkb))).mono ?_
          rintro e wc ⟨vc1, rfl, hoc, hbc⟩
          have kkc : Kp wb wc := Kp.of hbc
          have HOC := hide hoc.rd
          obtain ⟨A72, N72, c72, rfl⟩ := hoc.rd.slice
          have hib : Hi wa.heap.size (.slice A71 N71 c71) := HOB.out.hi
          clear hoc hbc
          rcases HMS.out with ⟨hz2, rfl, rfl⟩ | ⟨rfl, hu, rfl, rfl⟩ | ⟨rfl, hu, hlg, rfl, rfl⟩ | ⟨rfl, hu, hlg, hm1, rfl⟩
          · have g1 : (q2 == 0) = false := by simpa using hz2
            have g2 : (q2 != 0) = true := by simpa using hz2
            clear hz2
            go_wp2_with ((at_builtin; (with_reducible refine list_app (B := wa.heap.size) (l := ka) (m := kb) row_int (.slice A71 N71 c71) ?_ (.tmp 99) (.tmp 101) ?_ ?_ ?_ ?_ HM1.out HM2.out ?_ ?_); (with_reducible rfl); (with_reducible rfl); rfl; (exact HOB.out.kp kkc); (show RD _ _ (.slice A72 N72 c72) _; exact HOC.out); (exact (kkb.trans kkc).size); intro vd wd hod hgd hatd); have hodL : RD wd eInt vd L := (by rw [← HL.out]; exact hod.rd); obtain ⟨A73, c73, rfl, hc73, hm73⟩ := hodL.shape)
            have KD : Kp wa wd := Kp.app hgd (kkb.trans kkc) hib
            have KDW := KA.trans KD
            have KDM := KAM.trans KD
            have HOD := hide hodL
            have HRM := hide (hrm.kp KDM)
            clear HOB HOC hib hod hodL hgd hatd KD KA KAM
            go_wp2
            go_ret
            exact ⟨rfl, KDW.bel⟩
          · go_wp2_with ((at_builtin; (with_reducible refine list_app (B := wa.heap.size) (l := ka) (m := kb) row_int (.slice A71 N71 c71) ?_ (.tmp 99) (.tmp 101) ?_ ?_ ?_ ?_ HM1.out HM2.out ?_ ?_); (with_reducible rfl); (with_reducible rfl); rfl; (exact HOB.out.kp kkc); (show RD _ _ (.slice A72 N72 c72) _; exact HOC.out); (exact (kkb.trans kkc).size); intro vd wd hod hgd hatd); have hodL : RD wd eInt vd L := (by rw [← HL.out]; exact hod.rd); obtain ⟨A73, c73, rfl, hc73, hm73⟩ := hodL.shape)
            have KD : Kp wa wd := Kp.app hgd (kkb.trans kkc) hib
            have KDW := KA.trans KD
            have KDM := KAM.trans KD
            have HOD := hide hodL
            have HRM := hide (hrm.kp KDM)
            clear HOB HOC hib hod hodL hgd hatd KD KA KAM
            go_loopw [12, 107] (ZaRel L wd) (fun _ i _ => L.length - (intOf i).toNat)
            case atStart => exact ⟨0, by omega, rfl, rfl, Kp.refl _⟩
            case round =>
              obtain ⟨k, hk, rfl, rfl, hkp⟩ := hrel
              by_cases hlt : k < L.length
              · obtain ⟨b1, o1, rfl, hbl, c0⟩ := (HOD.out.kp hkp).int hlt
                have HNS := hide (notUp_succ L k)
                have HHU := hide hu
                clear hu
                by_cases hk0 : 0 < k
                · obtain ⟨p, hp⟩ : ∃ p, p + 1 = k := ⟨k - 1, by omega⟩
                  obtain ⟨b2, o2, e2, _, c1⟩ := (HOD.out.kp hkp).int (k := p) (by omega)
                  injection e2 with e2
                  injection e2 with e2 e3
                  subst e2 e3
                  have hgk : L.getD k 0 = L[k] := by simp [List.getD_eq_getElem?_getD, List.getElem?_eq_getElem hlt]
                  have hgp : L.getD (k - 1) 0 = L[p]'(by omega) := by rw [show k - 1 = p from by omega]; simp [List.getD_eq_getElem?_getD, List.getElem?_eq_getElem (show p < L.length by omega)]
                  have hns := HNS.out
                  rw [hgk, hgp, decide_eq_true hk0, Bool.true_and] at hns
                  obtain ⟨y, hy⟩ : ∃ y, y = L[k] := ⟨_, rfl⟩
                  obtain ⟨x, hx⟩ : ∃ x, x = L[p]'(by omega) := ⟨_, rfl⟩
                  rw [← hy] at c0 hns
                  rw [← hx] at c1 hns
                  have HNS2 := hide hns
                  have s1 : IntKind.i64.wrap ((k : Int) - 1) = (p : Int) := by rw [IntWalk.i64_in _ (by have := HLL.out; omega)]; omega
                  have g1 : decide ((0 : Int) < (k : Int)) = true := by simp; omega
                  have g2 : decide (0 < k) = true := by simp; omega
                  have gp : p < L.length := by omega
                  clear hgk hgp hns hy hx HNS hp
                  by_cases hle : y ≤ x
                  · have d1 : decide (y ≤ x) = true := decide_eq_true hle
                    have HNS3 : Hid (notUp L (k + 1) = true) := hide (by rw [HNS2.out, d1]; simp)
                    clear HNS2
                    go_wp2_with fail
                    go_quiet (fail)
                    go_wp2
                    go_roundw
                    case rel => exact ⟨k + 1, by omega, by go_num, by simp only [nuI, HNS3.out, cond], hkp.drewN⟩
                    case measure => simp [intOf]; omega
                  · have d1 : decide (y ≤ x) = false := decide_eq_false hle
                    have HNS3 : Hid (notUp L (k + 1) = notUp L k) := hide (by rw [HNS2.out, d1]; simp)
                    clear HNS2
                    go_wp2_with fail
                    go_quiet (fail)
                    go_wp2
                    go_roundw
                    case rel => exact ⟨k + 1, by omega, by go_num, by simp only [nuI, HNS3.out], hkp.drewN⟩
                    case measure => simp [intOf]; omega
                · obtain rfl : k = 0 := by omega
                  have HNS3 : Hid (notUp L (0 + 1) = notUp L 0) := hide (by rw [HNS.out]; simp)
                  clear HNS
                  go_wp2_with fail
                  go_quiet (fail)
                  go_wp2
                  go_roundw
                  case rel => exact ⟨0 + 1, by omega, by go_num, by simp only [nuI, HNS3.out], hkp.drewN⟩
                  case measure => simp [intOf]; omega
              · obtain rfl : k = L.length := by omega
                rw [nuI, hu, cond]
                clear hu
                go_wp2
                go_ret
                exact ⟨rfl, (KDW.trans hkp).bel⟩
          · go_wp2_with ((at_builtin; (with_reducible refine list_app (B := wa.heap.size) (l := ka) (m := kb) row_int (.slice A71 N71 c71) ?_ (.tmp 99) (.tmp 101) ?_ ?_ ?_ ?_ HM1.out HM2.out ?_ ?_); (with_reducible rfl); (with_reducible rfl); rfl; (exact HOB.out.kp kkc); (show RD _ _ (.slice A72 N72 c72) _; exact HOC.out); (exact (kkb.trans kkc).size); intro vd wd hod hgd hatd); have hodL : RD wd eInt vd L := (by rw [← HL.out]; exact hod.rd); obtain ⟨A73, c73, rfl, hc73, hm73⟩ := hodL.shape)
            have KD : Kp wa wd := Kp.app hgd (kkb.trans kkc) hib
            have KDW := KA.trans KD
            have KDM := KAM.trans KD
            have HOD := hide hodL
            have HRM := hide (hrm.kp KDM)
            clear HOB HOC hib hod hodL hgd hatd KD KA KAM
            go_loopw [12, 107] (ZaRel L wd) (fun _ i _ => L.length - (intOf i).toNat)
            case atStart => exact ⟨0, by omega, rfl, rfl, Kp.refl _⟩
            case round =>
              obtain ⟨k, hk, rfl, rfl, hkp⟩ := hrel
              by_cases hlt : k < L.length
              · obtain ⟨b1, o1, rfl, hbl, c0⟩ := (HOD.out.kp hkp).int hlt
                have HNS := hide (notUp_succ L k)
                have HHU := hide hu
                clear hu
                by_cases hk0 : 0 < k
                · obtain ⟨p, hp⟩ : ∃ p, p + 1 = k := ⟨k - 1, by omega⟩
                  obtain ⟨b2, o2, e2, _, c1⟩ := (HOD.out.kp hkp).int (k := p) (by omega)
                  injection e2 with e2
                  injection e2 with e2 e3
                  subst e2 e3
                  have hgk : L.getD k 0 = L[k] := by simp [List.getD_eq_getElem?_getD, List.getElem?_eq_getElem hlt]
                  have hgp : L.getD (k - 1) 0 = L[p]'(by omega) := by rw [show k - 1 = p from by omega]; simp [List.getD_eq_getElem?_getD, List.getElem?_eq_getElem (show p < L.length by omega)]
                  have hns := HNS.out
                  rw [hgk, hgp, decide_eq_true hk0, Bool.true_and] at hns
                  obtain ⟨y, hy⟩ : ∃ y, y = L[k] := ⟨_, rfl⟩
                  obtain ⟨x, hx⟩ : ∃ x, x = L[p]'(by omega) := ⟨_, rfl⟩
                  rw [← hy] at c0 hns
                  rw [← hx] at c1 hns
                  have HNS2 := hide hns
                  have s1 : IntKind.i64.wrap ((k : Int) - 1) = (p : Int) := by rw [IntWalk.i64_in _ (by have := HLL.out; omega)]; omega
                  have g1 : decide ((0 : Int) < (k : Int)) = true := by simp; omega
                  have g2 : decide (0 < k) = true := by simp; omega
                  have gp : p < L.length := by omega
                  clear hgk hgp hns hy hx HNS hp
                  by_cases hle : y ≤ x
                  · have d1 : decide (y ≤ x) = true := decide_eq_true hle
                    have HNS3 : Hid (notUp L (k + 1) = true) := hide (by rw [HNS2.out, d1]; simp)
                    clear HNS2
                    go_wp2_with fail
                    go_quiet (fail)
                    go_wp2
                    go_roundw
                    case rel => exact ⟨k + 1, by omega, by go_num, by simp only [nuI, HNS3.out, cond], hkp.drewN⟩
                    case measure => simp [intOf]; omega
                  · have d1 : decide (y ≤ x) = false := decide_eq_false hle
                    have HNS3 : Hid (notUp L (k + 1) = notUp L k) := hide (by rw [HNS2.out, d1]; simp)
                    clear HNS2
                    go_wp2_with fail
                    go_quiet (fail)
                    go_wp2
                    go_roundw
                    case rel => exact ⟨k + 1, by omega, by go_num, by simp only [nuI, HNS3.out], hkp.drewN⟩
                    case measure => simp [intOf]; omega
                · obtain rfl : k = 0 := by omega
                  have HNS3 : Hid (notUp L (0 + 1) = notUp L 0) := hide (by rw [HNS.out]; simp)
                  clear HNS
                  go_wp2_with fail
                  go_quiet (fail)
                  go_wp2
                  go_roundw
                  case rel => exact ⟨0 + 1, by omega, by go_num, by simp only [nuI, HNS3.out], hkp.drewN⟩
                  case measure => simp [intOf]; omega
              · obtain rfl : k = L.length := by omega
                rw [nuI, hu, cond]
                have hl2 : 200 < L.length := by have := HLL2.out; omega
                clear hu
                go_wp2
                go_ret
                exact ⟨rfl, (KDW.trans hkp).bel⟩
          · have HM := hide hm1
            clear hm1
            go_wp2_with ((at_builtin; (with_reducible refine list_app (B := wa.heap.size) (l := ka) (m := kb) row_int (.slice A71 N71 c71) ?_ (.tmp 99) (.tmp 101) ?_ ?_ ?_ ?_ HM1.out HM2.out ?_ ?_); (with_reducible rfl); (with_reducible rfl); rfl; (exact HOB.out.kp kkc); (show RD _ _ (.slice A72 N72 c72) _; exact HOC.out); (exact (kkb.trans kkc).size); intro vd wd hod hgd hatd); have hodL : RD wd eInt vd L := (by rw [← HL.out]; exact hod.rd); obtain ⟨A73, c73, rfl, hc73, hm73⟩ := hodL.shape)
            have KD : Kp wa wd := Kp.app hgd (kkb.trans kkc) hib
            have KDW := KA.trans KD
            have KDM := KAM.trans KD
            have HOD := hide hodL
            have HRM := hide (hrm.kp KDM)
            clear HOB HOC hib hod hodL hgd hatd KD KA KAM
            go_loopw [12, 107] (ZaRel L wd) (fun _ i _ => L.length - (intOf i).toNat)
            case atStart => exact ⟨0, by omega, rfl, rfl, Kp.refl _⟩
            case round =>
              obtain ⟨k, hk, rfl, rfl, hkp⟩ := hrel
              by_cases hlt : k < L.length
              · obtain ⟨b1, o1, rfl, hbl, c0⟩ := (HOD.out.kp hkp).int hlt
                have HNS := hide (notUp_succ L k)
                have HHU := hide hu
                clear hu
                by_cases hk0 : 0 < k
                · obtain ⟨p, hp⟩ : ∃ p, p + 1 = k := ⟨k - 1, by omega⟩
                  obtain ⟨b2, o2, e2, _, c1⟩ := (HOD.out.kp hkp).int (k := p) (by omega)
                  injection e2 with e2
                  injection e2 with e2 e3
                  subst e2 e3
                  have hgk : L.getD k 0 = L[k] := by simp [List.getD_eq_getElem?_getD, List.getElem?_eq_getElem hlt]
                  have hgp : L.getD (k - 1) 0 = L[p]'(by omega) := by rw [show k - 1 = p from by omega]; simp [List.getD_eq_getElem?_getD, List.getElem?_eq_getElem (show p < L.length by omega)]
                  have hns := HNS.out
                  rw [hgk, hgp, decide_eq_true hk0, Bool.true_and] at hns
                  obtain ⟨y, hy⟩ : ∃ y, y = L[k] := ⟨_, rfl⟩
                  obtain ⟨x, hx⟩ : ∃ x, x = L[p]'(by omega) := ⟨_, rfl⟩
                  rw [← hy] at c0 hns
                  rw [← hx] at c1 hns
                  have HNS2 := hide hns
                  have s1 : IntKind.i64.wrap ((k : Int) - 1) = (p : Int) := by rw [IntWalk.i64_in _ (by have := HLL.out; omega)]; omega
                  have g1 : decide ((0 : Int) < (k : Int)) = true := by simp; omega
                  have g2 : decide (0 < k) = true := by simp; omega
                  have gp : p < L.length := by omega
                  clear hgk hgp hns hy hx HNS hp
                  by_cases hle : y ≤ x
                  · have d1 : decide (y ≤ x) = true := decide_eq_true hle
                    have HNS3 : Hid (notUp L (k + 1) = true) := hide (by rw [HNS2.out, d1]; simp)
                    clear HNS2
                    go_wp2_with fail
                    go_quiet (fail)
                    go_wp2
                    go_roundw
                    case rel => exact ⟨k + 1, by omega, by go_num, by simp only [nuI, HNS3.out, cond], hkp.drewN⟩
                    case measure => simp [intOf]; omega
                  · have d1 : decide (y ≤ x) = false := decide_eq_false hle
                    have HNS3 : Hid (notUp L (k + 1) = notUp L k) := hide (by rw [HNS2.out, d1]; simp)
                    clear HNS2
                    go_wp2_with fail
                    go_quiet (fail)
                    go_wp2
                    go_roundw
                    case rel => exact ⟨k + 1, by omega, by go_num, by simp only [nuI, HNS3.out], hkp.drewN⟩
                    case measure => simp [intOf]; omega
                · obtain rfl : k = 0 := by omega
                  have HNS3 : Hid (notUp L (0 + 1) = notUp L 0) := hide (by rw [HNS.out]; simp)
                  clear HNS
                  go_wp2_with fail
                  go_quiet (fail)
                  go_wp2
                  go_roundw
                  case rel => exact ⟨0 + 1, by omega, by go_num, by simp only [nuI, HNS3.out], hkp.drewN⟩
                  case measure => simp [intOf]; omega
              · obtain rfl : k = L.length := by omega
                rw [nuI, hu, cond]
                have hl2 : L.length ≤ 200 := by have := HLL2.out; omega
                have hl3 : ¬ 200 < L.length := by omega
                clear hu
                go_wp2_with fail
                with_reducible refine (zipTree_any L _ _ (HOD.out.kp hkp) (by omega)).mono ?_
                rintro e we ⟨pe, rfl, hte, hbe⟩
                have kke := Kp.of hbe
                have HTE := hide hte
                clear hte hbe
                go_wp2_with fail
                with_reducible refine (spots_any (heapTree (L.map zk)) pe 0 _ HTE.out (by omega) (by rw [heapTree_size]; simp; omega)).mono ?_
                rintro e wf ⟨vf, rfl, hof, hbf⟩
                have kkf : Kp we wf := Kp.of hbf
                have HOF := hide hof.rd
                clear hof hbf
                go_wp2_with fail
                with_reducible refine (sameSpots_to ml ((heapTree (L.map zk)).spots 0) true _ _ _ (HRM.out.kp (hkp.trans (kke.trans kkf))) HOF.out (by rw [HM.out]; simp)).mono ?_
                rintro e wg ⟨rfl, hbg⟩
                have kkg : Kp wf wg := Kp.of hbg
                clear hbg
                go_wp2
                go_ret
                exact ⟨rfl, (KDW.trans (hkp.trans (kke.trans (kkf.trans kkg)))).bel⟩
  · have hsp := HSP.out
    rw [if_pos hz1] at hsp
    simp only [Prod.mk.injEq] at hsp
    obtain ⟨rfl, rfl, rfl⟩ := hsp
    have g1 : (q1 == 0) = false := by simpa using hz1
    have g2 : (q1 != 0) = true := by simpa using hz1
    have g3 : (q1 != q1) = false := by simp
    go_wp2_with fail
    with_reducible refine (HZ2.out _ _ (RDS.new2 (by simp) (HRA.out.kp K3) (HRB.out.kp K3))).mono ?_
    rintro e wa ⟨rfl, hba⟩
    have KA := (K3).trans ((Kp.refl _).alloc.trans (Kp.of hba))
    have KAM := (kk3).trans ((Kp.refl _).alloc.trans (Kp.of hba))
    clear hba
    go_wp2_with fail
    with_reducible refine (HKA.out _ _ (HRA.out.kp KA)).mono ?_
    rintro e wb ⟨vb1, rfl, hob, hbb⟩
    have kkb : Kp wa wb := Kp.of hbb
    have HOB := hide hob
    obtain ⟨A71, N71, c71, rfl⟩ := hob.rd.slice
    clear hob hbb
    go_wp2_with fail
    with_reducible refine (HKB.out _ _ (HRB.out.kp (KA.trans kkb))).mono ?_
    rintro e wc ⟨vc1, rfl, hoc, hbc⟩
    have kkc : Kp wb wc := Kp.of hbc
    have HOC := hide hoc.rd
    obtain ⟨A72, N72, c72, rfl⟩ := hoc.rd.slice
    have hib : Hi wa.heap.size (.slice A71 N71 c71) := HOB.out.hi
    clear hoc hbc
    rcases HMS.out with ⟨hz2, rfl, rfl⟩ | ⟨rfl, hu, rfl, rfl⟩ | ⟨rfl, hu, hlg, rfl, rfl⟩ | ⟨rfl, hu, hlg, hm1, rfl⟩
    · have g1 : (q2 == 0) = false := by simpa using hz2
      have g2 : (q2 != 0) = true := by simpa using hz2
      clear hz2
      go_wp2_with ((at_builtin; (with_reducible refine list_app (B := wa.heap.size) (l := ka) (m := kb) row_int (.slice A71 N71 c71) ?_ (.tmp 99) (.tmp 101) ?_ ?_ ?_ ?_ HM1.out HM2.out ?_ ?_); (with_reducible rfl); (with_reducible rfl); rfl; (exact HOB.out.kp kkc); (show RD _ _ (.slice A72 N72 c72) _; exact HOC.out); (exact (kkb.trans kkc).size); intro vd wd hod hgd hatd); have hodL : RD wd eInt vd L := (by rw [← HL.out]; exact hod.rd); obtain ⟨A73, c73, rfl, hc73, hm73⟩ := hodL.shape)
      have KD : Kp wa wd := Kp.app hgd (kkb.trans kkc) hib
      have KDW := KA.trans KD
      have KDM := KAM.trans KD
      have HOD := hide hodL
      have HRM := hide (hrm.kp KDM)
      clear HOB HOC hib hod hodL hgd hatd KD KA KAM
      go_wp2
      go_ret
      exact ⟨rfl, KDW.bel⟩
    · go_wp2_with ((at_builtin; (with_reducible refine list_app (B := wa.heap.size) (l := ka) (m := kb) row_int (.slice A71 N71 c71) ?_ (.tmp 99) (.tmp 101) ?_ ?_ ?_ ?_ HM1.out HM2.out ?_ ?_); (with_reducible rfl); (with_reducible rfl); rfl; (exact HOB.out.kp kkc); (show RD _ _ (.slice A72 N72 c72) _; exact HOC.out); (exact (kkb.trans kkc).size); intro vd wd hod hgd hatd); have hodL : RD wd eInt vd L := (by rw [← HL.out]; exact hod.rd); obtain ⟨A73, c73, rfl, hc73, hm73⟩ := hodL.shape)
      have KD : Kp wa wd := Kp.app hgd (kkb.trans kkc) hib
      have KDW := KA.trans KD
      have KDM := KAM.trans KD
      have HOD := hide hodL
      have HRM := hide (hrm.kp KDM)
      clear HOB HOC hib hod hodL hgd hatd KD KA KAM
      go_loopw [12, 107] (ZaRel L wd) (fun _ i _ => L.length - (intOf i).toNat)
      case atStart => exact ⟨0, by omega, rfl, rfl, Kp.refl _⟩
      case round =>
        obtain ⟨k, hk, rfl, rfl, hkp⟩ := hrel
        by_cases hlt : k < L.length
        · obtain ⟨b1, o1, rfl, hbl, c0⟩ := (HOD.out.kp hkp).int hlt
          have HNS := hide (notUp_succ L k)
          have HHU := hide hu
          clear hu
          by_cases hk0 : 0 < k
          · obtain ⟨p, hp⟩ : ∃ p, p + 1 = k := ⟨k - 1, by omega⟩
            obtain ⟨b2, o2, e2, _, c1⟩ := (HOD.out.kp hkp).int (k := p) (by omega)
            injection e2 with e2
            injection e2 with e2 e3
            subst e2 e3
            have hgk : L.getD k 0 = L[k] := by simp [List.getD_eq_getElem?_getD, List.getElem?_eq_getElem hlt]
            have hgp : L.getD (k - 1) 0 = L[p]'(by omega) := by rw [show k - 1 = p from by omega]; simp [List.getD_eq_getElem?_getD, List.getElem?_eq_getElem (show p < L.length by omega)]
            have hns := HNS.out
            rw [hgk, hgp, decide_eq_true hk0, Bool.true_and] at hns
            obtain ⟨y, hy⟩ : ∃ y, y = L[k] := ⟨_, rfl⟩
            obtain ⟨x, hx⟩ : ∃ x, x = L[p]'(by omega) := ⟨_, rfl⟩
            rw [← hy] at c0 hns
            rw [← hx] at c1 hns
            have HNS2 := hide hns
            have s1 : IntKind.i64.wrap ((k : Int) - 1) = (p : Int) := by rw [IntWalk.i64_in _ (by have := HLL.out; omega)]; omega
            have g1 : decide ((0 : Int) < (k : Int)) = true := by simp; omega
            have g2 : decide (0 < k) = true := by simp; omega
            have gp : p < L.length := by omega
            clear hgk hgp hns hy hx HNS hp
            by_cases hle : y ≤ x
            · have d1 : decide (y ≤ x) = true := decide_eq_true hle
              have HNS3 : Hid (notUp L (k + 1) = true) := hide (by rw [HNS2.out, d1]; simp)
              clear HNS2
              go_wp2_with fail
              go_quiet (fail)
              go_wp2
              go_roundw
              case rel => exact ⟨k + 1, by omega, by go_num, by simp only [nuI, HNS3.out, cond], hkp.drewN⟩
              case measure => simp [intOf]; omega
            · have d1 : decide (y ≤ x) = false := decide_eq_false hle
              have HNS3 : Hid (notUp L (k + 1) = notUp L k) := hide (by rw [HNS2.out, d1]; simp)
              clear HNS2
              go_wp2_with fail
              go_quiet (fail)
              go_wp2
              go_roundw
              case rel => exact ⟨k + 1, by omega, by go_num, by simp only [nuI, HNS3.out], hkp.drewN⟩
              case measure => simp [intOf]; omega
          · obtain rfl : k = 0 := by omega
            have HNS3 : Hid (notUp L (0 + 1) = notUp L 0) := hide (by rw [HNS.out]; simp)
            clear HNS
            go_wp2_with fail
            go_quiet (fail)
            go_wp2
            go_roundw
            case rel => exact ⟨0 + 1, by omega, by go_num, by simp only [nuI, HNS3.out], hkp.drewN⟩
            case measure => simp [intOf]; omega
        · obtain rfl : k = L.length := by omega
          rw [nuI, hu, cond]
          clear hu
          go_wp2
          go_ret
          exact ⟨rfl, (KDW.trans hkp).bel⟩
    · go_wp2_with ((at_builtin; (with_reducible refine list_app (B := wa.heap.size) (l := ka) (m := kb) row_int (.slice A71 N71 c71) ?_ (.tmp 99) (.tmp 101) ?_ ?_ ?_ ?_ HM1.out HM2.out ?_ ?_); (with_reducible rfl); (with_reducible rfl); rfl; (exact HOB.out.kp kkc); (show RD _ _ (.slice A72 N72 c72) _; exact HOC.out); (exact (kkb.trans kkc).size); intro vd wd hod hgd hatd); have hodL : RD wd eInt vd L := (by rw [← HL.out]; exact hod.rd); obtain ⟨A73, c73, rfl, hc73, hm73⟩ := hodL.shape)
      have KD : Kp wa wd := Kp.app hgd (kkb.trans kkc) hib
      have KDW := KA.trans KD
      have KDM := KAM.trans KD
      have HOD := hide hodL
      have HRM := hide (hrm.kp KDM)
      clear HOB HOC hib hod hodL hgd hatd KD KA KAM
      go_loopw [12, 107] (ZaRel L wd) (fun _ i _ => L.length - (intOf i).toNat)
      case atStart => exact ⟨0, by omega, rfl, rfl, Kp.refl _⟩
      case round =>
        obtain ⟨k, hk, rfl, rfl, hkp⟩ := hrel
        by_cases hlt : k < L.length
        · obtain ⟨b1, o1, rfl, hbl, c0⟩ := (HOD.out.kp hkp).int hlt
          have HNS := hide (notUp_succ L k)
          have HHU := hide hu
          clear hu
          by_cases hk0 : 0 < k
          · obtain ⟨p, hp⟩ : ∃ p, p + 1 = k := ⟨k - 1, by omega⟩
            obtain ⟨b2, o2, e2, _, c1⟩ := (HOD.out.kp hkp).int (k := p) (by omega)
            injection e2 with e2
            injection e2 with e2 e3
            subst e2 e3
            have hgk : L.getD k 0 = L[k] := by simp [List.getD_eq_getElem?_getD, List.getElem?_eq_getElem hlt]
            have hgp : L.getD (k - 1) 0 = L[p]'(by omega) := by rw [show k - 1 = p from by omega]; simp [List.getD_eq_getElem?_getD, List.getElem?_eq_getElem (show p < L.length by omega)]
            have hns := HNS.out
            rw [hgk, hgp, decide_eq_true hk0, Bool.true_and] at hns
            obtain ⟨y, hy⟩ : ∃ y, y = L[k] := ⟨_, rfl⟩
            obtain ⟨x, hx⟩ : ∃ x, x = L[p]'(by omega) := ⟨_, rfl⟩
            rw [← hy] at c0 hns
            rw [← hx] at c1 hns
            have HNS2 := hide hns
            have s1 : IntKind.i64.wrap ((k : Int) - 1) = (p : Int) := by rw [IntWalk.i64_in _ (by have := HLL.out; omega)]; omega
            have g1 : decide ((0 : Int) < (k : Int)) = true := by simp; omega
            have g2 : decide (0 < k) = true := by simp; omega
            have gp : p < L.length := by omega
            clear hgk hgp hns hy hx HNS hp
            by_cases hle : y ≤ x
            · have d1 : decide (y ≤ x) = true := decide_eq_true hle
              have HNS3 : Hid (notUp L (k + 1) = true) := hide (by rw [HNS2.out, d1]; simp)
              clear HNS2
              go_wp2_with fail
              go_quiet (fail)
              go_wp2
              go_roundw
              case rel => exact ⟨k + 1, by omega, by go_num, by simp only [nuI, HNS3.out, cond], hkp.drewN⟩
              case measure => simp [intOf]; omega
            · have d1 : decide (y ≤ x) = false := decide_eq_false hle
              have HNS3 : Hid (notUp L (k + 1) = notUp L k) := hide (by rw [HNS2.out, d1]; simp)
              clear HNS2
              go_wp2_with fail
              go_quiet (fail)
              go_wp2
              go_roundw
              case rel => exact ⟨k + 1, by omega, by go_num, by simp only [nuI, HNS3.out], hkp.drewN⟩
              case measure => simp [intOf]; omega
          · obtain rfl : k = 0 := by omega
            have HNS3 : Hid (notUp L (0 + 1) = notUp L 0) := hide (by rw [HNS.out]; simp)
            clear HNS
            go_wp2_with fail
            go_quiet (fail)
            go_wp2
            go_roundw
            case rel => exact ⟨0 + 1, by omega, by go_num, by simp only [nuI, HNS3.out], hkp.drewN⟩
            case measure => simp [intOf]; omega
        · obtain rfl : k = L.length := by omega
          rw [nuI, hu, cond]
          have hl2 : 200 < L.length := by have := HLL2.out; omega
          clear hu
          go_wp2
          go_ret
          exact ⟨rfl, (KDW.trans hkp).bel⟩
    · have HM := hide hm1
      clear hm1
      go_wp2_with ((at_builtin; (with_reducible refine list_app (B := wa.heap.size) (l := ka) (m := kb) row_int (.slice A71 N71 c71) ?_ (.tmp 99) (.tmp 101) ?_ ?_ ?_ ?_ HM1.out HM2.out ?_ ?_); (with_reducible rfl); (with_reducible rfl); rfl; (exact HOB.out.kp kkc); (show RD _ _ (.slice A72 N72 c72) _; exact HOC.out); (exact (kkb.trans kkc).size); intro vd wd hod hgd hatd); have hodL : RD wd eInt vd L := (by rw [← HL.out]; exact hod.rd); obtain ⟨A73, c73, rfl, hc73, hm73⟩ := hodL.shape)
      have KD : Kp wa wd := Kp.app hgd (kkb.trans kkc) hib
      have KDW := KA.trans KD
      have KDM := KAM.trans KD
      have HOD := hide hodL
      have HRM := hide (hrm.kp KDM)
      clear HOB HOC hib hod hodL hgd hatd KD KA KAM
      go_loopw [12, 107] (ZaRel L wd) (fun _ i _ => L.length - (intOf i).toNat)
      case atStart => exact ⟨0, by omega, rfl, rfl, Kp.refl _⟩
      case round =>
        obtain ⟨k, hk, rfl, rfl, hkp⟩ := hrel
        by_cases hlt : k < L.length
        · obtain ⟨b1, o1, rfl, hbl, c0⟩ := (HOD.out.kp hkp).int hlt
          have HNS := hide (notUp_succ L k)
          have HHU := hide hu
          clear hu
          by_cases hk0 : 0 < k
          · obtain ⟨p, hp⟩ : ∃ p, p + 1 = k := ⟨k - 1, by omega⟩
            obtain ⟨b2, o2, e2, _, c1⟩ := (HOD.out.kp hkp).int (k := p) (by omega)
            injection e2 with e2
            injection e2 with e2 e3
            subst e2 e3
            have hgk : L.getD k 0 = L[k] := by simp [List.getD_eq_getElem?_getD, List.getElem?_eq_getElem hlt]
            have hgp : L.getD (k - 1) 0 = L[p]'(by omega) := by rw [show k - 1 = p from by omega]; simp [List.getD_eq_getElem?_getD, List.getElem?_eq_getElem (show p < L.length by omega)]
            have hns := HNS.out
            rw [hgk, hgp, decide_eq_true hk0, Bool.true_and] at hns
            obtain ⟨y, hy⟩ : ∃ y, y = L[k] := ⟨_, rfl⟩
            obtain ⟨x, hx⟩ : ∃ x, x = L[p]'(by omega) := ⟨_, rfl⟩
            rw [← hy] at c0 hns
            rw [← hx] at c1 hns
            have HNS2 := hide hns
            have s1 : IntKind.i64.wrap ((k : Int) - 1) = (p : Int) := by rw [IntWalk.i64_in _ (by have := HLL.out; omega)]; omega
            have g1 : decide ((0 : Int) < (k : Int)) = true := by simp; omega
            have g2 : decide (0 < k) = true := by simp; omega
            have gp : p < L.length := by omega
            clear hgk hgp hns hy hx HNS hp
            by_cases hle : y ≤ x
            · have d1 : decide (y ≤ x) = true := decide_eq_true hle
              have HNS3 : Hid (notUp L (k + 1) = true) := hide (by rw [HNS2.out, d1]; simp)
              clear HNS2
              go_wp2_with fail
              go_quiet (fail)
              go_wp2
              go_roundw
              case rel => exact ⟨k + 1, by omega, by go_num, by simp only [nuI, HNS3.out, cond], hkp.drewN⟩
              case measure => simp [intOf]; omega
            · have d1 : decide (y ≤ x) = false := decide_eq_false hle
              have HNS3 : Hid (notUp L (k + 1) = notUp L k) := hide (by rw [HNS2.out, d1]; simp)
              clear HNS2
              go_wp2_with fail
              go_quiet (fail)
              go_wp2
              go_roundw
              case rel => exact ⟨k + 1, by omega, by go_num, by simp only [nuI, HNS3.out], hkp.drewN⟩
              case measure => simp [intOf]; omega
          · obtain rfl : k = 0 := by omega
            have HNS3 : Hid (notUp L (0 + 1) = notUp L 0) := hide (by rw [HNS.out]; simp)
            clear HNS
            go_wp2_with fail
            go_quiet (fail)
            go_wp2
            go_roundw
            case rel => exact ⟨0 + 1, by omega, by go_num, by simp only [nuI, HNS3.out], hkp.drewN⟩
            case measure => simp [intOf]; omega
        · obtain rfl : k = L.length := by omega
          rw [nuI, hu, cond]
          have hl2 : L.length ≤ 200 := by have := HLL2.out; omega
          have hl3 : ¬ 200 < L.length := by omega
          clear hu
          go_wp2_with fail
          with_reducible refine (zipTree_any L _ _ (HOD.out.kp hkp) (by omega)).mono ?_
          rintro e we ⟨pe, rfl, hte, hbe⟩
          have kke := Kp.of hbe
          have HTE := hide hte
          clear hte hbe
          go_wp2_with fail
          with_reducible refine (spots_any (heapTree (L.map zk)) pe 0 _ HTE.out (by omega) (by rw [heapTree_size]; simp; omega)).mono ?_
          rintro e wf ⟨vf, rfl, hof, hbf⟩
          have kkf : Kp we wf := Kp.of hbf
          have HOF := hide hof.rd
          clear hof hbf
          go_wp2_with fail
          with_reducible refine (sameSpots_to ml ((heapTree (L.map zk)).spots 0) true _ _ _ (HRM.out.kp (hkp.trans (kke.trans kkf))) HOF.out (by rw [HM.out]; simp)).mono ?_
          rintro e wg ⟨rfl, hbg⟩
          have kkg : Kp wf wg := Kp.of hbg
          clear hbg
          go_wp2
          go_ret
          exact ⟨rfl, (KDW.trans (hkp.trans (kke.trans (kkf.trans kkg)))).bel⟩
end Go.Proofs.YtfgbbmjnjppfnaaDoor
