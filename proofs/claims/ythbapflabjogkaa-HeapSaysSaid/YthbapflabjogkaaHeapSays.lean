/-
  hedglaw.HeapSays: the walk: it answers true. Conditions: the lists read as a, b and l (RD).
-/
import Derived.Test.YthbapflabjogkaaJoinLaw
import Derived.Test.YthbapflabjogkaaSame
namespace Go.Proofs.Ythbapflabjogkaa
open Go.ChangeShapes Go.WideShapes Go.ChangeAt Go.RowKit
set_option linter.unusedVariables false
set_option linter.unusedSimpArgs false

def S1 (l : List Int) (w : World) (i : Value) (wr : World) : Prop := ∃ k : Nat, k ≤ l.length ∧ i = .int .i64 k ∧ Kp w wr
def S2 (l : List Int) (k : Nat) (w : World) (wv i : Value) (wr : World) : Prop :=
  ∃ j : Nat, j ≤ k ∧ i = .int .i64 j ∧ wv = .int .i64 (nl l (iv l k) j) ∧ Kp w wr

def S3 (a b : List IP) (w : World) (sv i : Value) (wr : World) : Prop :=
  ∃ (k : Nat) (s : Int), k ≤ a.length ∧ i = .int .i64 k ∧ sv = .int .i64 s ∧ ((s = 0 ∧ ∀ x ∈ a.take k, ∀ y ∈ b, x.1 < y.1) ∨ (s = 3 ∧ ∃ x ∈ a, ∃ y ∈ b, y.1 ≤ x.1)) ∧ Kp w wr
def S4 (a b : List IP) (k : Nat) (w : World) (sv j : Value) (wr : World) : Prop :=
  ∃ (m : Nat) (s : Int), m ≤ b.length ∧ j = .int .i64 m ∧ sv = .int .i64 s ∧
    ((s = 0 ∧ (∀ x ∈ a.take k, ∀ y ∈ b, x.1 < y.1) ∧ ∀ (h : k < a.length), ∀ y ∈ b.take m, a[k].1 < y.1) ∨ (s = 3 ∧ ∃ x ∈ a, ∃ y ∈ b, y.1 ≤ x.1)) ∧ Kp w wr

set_option maxRecDepth 100000 in
set_option maxHeartbeats 8000000 in
theorem heapSays_walk (a b : List IP) (l : List Int) (va vb vl : Value) (w : World) (ha : RD w ePair va a) (hb : RD w ePair vb b) (hl : RD w eInt vl l) :
    Calls Try.prog 3 #[va, vb, vl] w (Ret (.bool true) w) := by
  obtain ⟨A1, c1, rfl, hc1, hm1⟩ := ha.shape
  obtain ⟨A2, c2, rfl, hc2, hm2⟩ := hb.shape
  obtain ⟨A3, c3, rfl, hc3, hm3⟩ := hl.shape
  have HA := hide ha
  have HB := hide hb
  have HL := hide hl
  clear ha hb hl
  go_enter Try.func3, Try.ntmps3
  go_wp2_with fail
  refine (heapOf_any a _ _ HA.out).mono ?_
  rintro e w1 ⟨v1, rfl, hr1, hk1⟩
  have k1 : Kp w w1 := hk1
  obtain ⟨B1, d1, rfl, hd1, hn1⟩ := hr1.shape
  have HR1 := hide hr1
  clear hr1 hk1
  go_wp2_with fail
  refine (join_any a b _ _ _ (HA.out.kp k1) (HB.out.kp k1)).mono ?_
  rintro e w2 ⟨v2, rfl, hr2, hk2⟩
  have j2 : Kp w1 w2 := hk2
  obtain ⟨B2, d2, rfl, hd2, hn2⟩ := hr2.shape
  have HR2 := hide hr2
  clear hr2 hk2
  go_wp2_with fail
  refine (least_any l _ _ (HL.out.kp (k1.trans j2))).mono ?_
  rintro e w3 ⟨v3, rfl, hr3, hk3⟩
  have j3 : Kp w2 w3 := hk3
  obtain ⟨B3, d3, rfl, hd3, hn3⟩ := hr3.shape
  have HR3 := hide hr3
  clear hr3 hk3
  go_wp2_with fail
  refine (hcheck_any a _ _ (HA.out.kp ((k1.trans j2).trans j3))).mono ?_
  rintro e w4 ⟨rfl, hk4⟩
  have j4 : Kp w3 w4 := hk4
  clear hk4
  go_wp2_with fail
  refine (mapRight_any a _ _ (HA.out.kp (((k1.trans j2).trans j3).trans j4))).mono ?_
  rintro e w5 ⟨rfl, hk5⟩
  have j5 : Kp w4 w5 := hk5
  clear hk5
  have K5 := hide (k1.trans (j2.trans (j3.trans (j4.trans j5))))
  have RA := hide (HA.out.kp K5.out)
  have RB := hide (HB.out.kp K5.out)
  have RL := hide (HL.out.kp K5.out)
  have R1 := hide (HR1.out.kp (j2.trans (j3.trans (j4.trans j5))))
  have R2 := hide (HR2.out.kp (j3.trans (j4.trans j5)))
  have R3 := hide (HR3.out.kp (j4.trans j5))
  clear HA HB HL HR1 HR2 HR3 k1 j2 j3 j4 j5
  have k5 := Kp.refl w5
  by_cases hlen : l.length > 200
  · have e1 : (leastOf l).1.length = 0 := by rw [leastOf, if_pos hlen]; rfl
    have e2 : (leastOf l).2 = 2 := by rw [leastOf, if_pos hlen]
    have hkp := k5
    go_wp2_with fail
    refine (mapRight_any a _ _ (RA.out.kp hkp)).mono ?_
    rintro e w6 ⟨rfl, hk6⟩
    have q6 : Kp w5 w6 := hkp.trans hk6
    clear hk6
    by_cases hma : mapRight a = 0
    · have hla := mapRight_len a hma
      have e8 : (heapOf a).2 = 0 := by rw [heapOf, if_pos hma]
      have hss : Hid (decide ((heapOf a).1 = (heapTree a).spots 0) = true) := hide (by rw [heapOf, if_pos hma]; simp)
      have h1 : (mapRight a != 0) = false := by simp [hma]
      have HMA := hide hma
      clear hma
      go_wp2_with fail
      refine (heapTree_any 1000 a _ _ (by omega) (by omega) (RA.out.kp q6)).mono ?_
      rintro e w7 ⟨p7, rfl, ht7, hk7⟩
      have q7 : Kp w5 w7 := q6.trans hk7
      have HT7 := hide ht7
      clear hk7 ht7
      go_wp2_with fail
      refine (spots_any (heapTree a) p7 0 _ HT7.out (by omega) (by rw [heapTree_size]; omega)).mono ?_
      rintro e w8 ⟨v8, rfl, ho8, hk8⟩
      have q8 : Kp w5 w8 := q7.trans hk8
      have HO8 := hide ho8.rd
      clear hk8 ho8
      go_wp2_with fail
      refine (sameSpots_to _ _ true _ _ _ (R1.out.kp q8) HO8.out hss.out).mono ?_
      rintro e w9 ⟨rfl, hk9⟩
      have q9 : Kp w5 w9 := q8.trans hk9
      clear hk9
      go_wp2_with fail
      refine (mapRight_any b _ _ (RB.out.kp q9)).mono ?_
      rintro e w10 ⟨rfl, hk10⟩
      have q10 : Kp w5 w10 := q9.trans hk10
      clear hk10
      by_cases hmb : mapRight b = 0
      · have h2 : (mapRight b == 0) = true := by simp [hmb]
        have hlb := mapRight_len b hmb
        have HMB := hide hmb
        clear hmb
        go_wp2
        go_loopw [18, 127] (S3 a b w5) (fun _ i _ => a.length - (intOf i).toNat)
        case atStart => exact ⟨0, 0, by omega, rfl, by rw [HMB.out], .inl ⟨rfl, by simp⟩, q10⟩
        case round =>
          obtain ⟨i, sv, hi, rfl, rfl, hs, hkp3⟩ := hrel
          have HS := hide hs
          clear hs
          by_cases hlti : i < a.length
          · obtain ⟨b6, o6, rfl, _, x0, x1⟩ := (RA.out.kp hkp3).pair hlti
            obtain ⟨wo, rfl⟩ : ∃ wo : World, wo = wr := ⟨_, rfl⟩
            go_wp2
            go_loopw [18, 133] (S4 a b i (wo.alloc (.cells #[.int .i64 a[i].1, .int .i64 a[i].2] 37))) (fun _ j _ => b.length - (intOf j).toNat)
            case atStart => exact ⟨0, sv, by omega, rfl, rfl, HS.out.imp (fun h => ⟨h.1, h.2, by simp⟩) id, Kp.refl _⟩
            case round =>
              obtain ⟨j, sv2, hj, rfl, rfl, hs2, hkp4⟩ := hrel
              have HS2 := hide hs2
              clear hs2
              have hk54 : Kp w5 wr := (hkp3.alloc).trans hkp4
              by_cases hltj : j < b.length
              · obtain ⟨b7, o7, rfl, _, y0, y1⟩ := (RB.out.kp hk54).pair hltj
                have p0 : wr.cell? ⟨wo.heap.size, 0, none⟩ = some (.int .i64 a[i].1) := hkp4.cell (cell_of_row _ _ 0 _ _ (0, 0) (heap_alloc_new wo _))
                have hsz : wo.heap.size < wr.heap.size := by have h := hkp4.size; simp at h; omega
                by_cases hcmp : b[j].1 ≤ a[i].1
                · go_wp2
                  go_roundw
                  case rel => exact ⟨j + 1, 3, by omega, by go_num, rfl, .inr ⟨rfl, _, List.getElem_mem hlti, _, List.getElem_mem hltj, hcmp⟩, (by (focus ((repeat (first | (with_reducible assumption) | (with_reducible exact Kp.refl _) | (with_reducible apply Kp.drew) | (with_reducible apply Kp.drewN) | ((with_reducible apply Kp.setR); (focus (first | (with_reducible assumption) | (simp; done) | (simp; omega)))) | (with_reducible apply Kp.alloc) | ((with_reducible apply Kp.call); (with_reducible assumption)) | ((with_reducible apply Kp.app); (with_reducible assumption)))); done)))⟩
                  case measure => simp [intOf]; omega
                · have hnew : Hid ((sv2 = 0 ∧ (∀ x ∈ a.take i, ∀ y ∈ b, x.1 < y.1) ∧ ∀ y ∈ b.take (j + 1), a[i].1 < y.1) ∨ (sv2 = 3 ∧ ∃ x ∈ a, ∃ y ∈ b, y.1 ≤ x.1)) := hide (HS2.out.imp (fun h => ⟨h.1, h.2.1, fun y hy => by
                      rw [List.take_succ_eq_append_getElem hltj] at hy
                      rcases List.mem_append.1 hy with hy | hy
                      · have := h.2.2 hlti y hy; exact this
                      · simp at hy; subst hy; omega⟩) id)
                  go_wp2
                  go_roundw
                  case rel => exact ⟨j + 1, sv2, by omega, by go_num, rfl, hnew.out.imp (fun h => ⟨h.1, h.2.1, fun _ => h.2.2⟩) id, (by (focus ((repeat (first | (with_reducible assumption) | (with_reducible exact Kp.refl _) | (with_reducible apply Kp.drew) | (with_reducible apply Kp.drewN) | ((with_reducible apply Kp.setR); (focus (first | (with_reducible assumption) | (simp; done) | (simp; omega)))) | (with_reducible apply Kp.alloc) | ((with_reducible apply Kp.call); (with_reducible assumption)) | ((with_reducible apply Kp.app); (with_reducible assumption)))); done)))⟩
                  case measure => simp [intOf]; omega
              · have hnew : Hid ((sv2 = 0 ∧ ∀ x ∈ a.take (i + 1), ∀ y ∈ b, x.1 < y.1) ∨ (sv2 = 3 ∧ ∃ x ∈ a, ∃ y ∈ b, y.1 ≤ x.1)) := hide (HS2.out.imp (fun h => ⟨h.1, fun x hx y hy => by
                    rw [List.take_succ_eq_append_getElem hlti] at hx
                    rcases List.mem_append.1 hx with hx | hx
                    · exact h.2.1 x hx y hy
                    · simp at hx; subst hx
                      exact h.2.2 hlti y (by rw [List.take_of_length_le (by omega)]; exact hy)⟩) id)
                go_wp2
                go_roundw
                case rel => exact ⟨i + 1, sv2, by omega, by go_num, rfl, hnew.out, hk54⟩
                case measure => simp [intOf]; omega
          · have hs' : Hid ((sv = 0 ∧ ∀ x ∈ a, ∀ y ∈ b, x.1 < y.1) ∨ (sv = 3 ∧ ∃ x ∈ a, ∃ y ∈ b, y.1 ≤ x.1)) := hide (by have h := HS.out; rwa [List.take_of_length_le (by omega)] at h)
            rcases hs'.out with ⟨rfl, hall⟩ | ⟨rfl, hex⟩
            · have hm : meets a b = false := meets_false a b hall
              have hjo : joinOf a b = heapOf (a ++ b) := by rw [joinOf, if_neg (by simp [HMA.out]), if_neg (by simp [HMB.out]), hm]; rfl
              have hmr := mapRight_append a b HMA.out HMB.out hall
              have hwl : IntKind.i64.wrap ((a.length : Int) + (b.length : Int)) = (a.length : Int) + (b.length : Int) := IntWalk.i64_in _ (by omega)
              by_cases hbig : a.length + b.length > 200
              · rw [if_pos hbig] at hmr
                have e9 : (joinOf a b).1.length = 0 := by rw [hjo, heapOf, if_neg (by rw [hmr]; decide)]; rfl
                have e10 : (joinOf a b).2 = 2 := by rw [hjo, heapOf, if_neg (by rw [hmr]; decide), hmr]
                clear hjo hmr hm hall
                go_wp2
                go_ret
                exact ⟨by simp, (K5.out.trans hkp3).bel⟩
              · rw [if_neg hbig] at hmr
                have e10 : (joinOf a b).2 = 0 := by rw [hjo, heapOf, if_pos hmr]
                have hsj : Hid (decide ((joinOf a b).1 = (heapTree (a ++ b)).spots 0) = true) := hide (by rw [hjo, heapOf, if_pos hmr]; simp)
                clear hjo hmr hm hall
                have HM1 : Hid ((([] : List IP).length + a.length) * 16 ≤ 140737488355328) := hide (by simp; omega)
                have HM2 : Hid (([] : List IP).length + a.length ≤ maxLen) := hide (by simp [maxLen]; omega)
                have HM3 : Hid ((([] ++ a : List IP).length + b.length) * 16 ≤ 140737488355328) := hide (by simp; omega)
                have HM4 : Hid (([] ++ a : List IP).length + b.length ≤ maxLen) := hide (by simp [maxLen]; omega)
                have hzw : w.heap.size ≤ wr.heap.size := (K5.out.trans hkp3).size
                have HHI : Hi w5.heap.size (.slice (some ⟨wr.heap.size, 0, none⟩) 0 0) := fun k hk => by simp [Value.ownBlock] at hk; subst hk; exact hkp3.size
                have HE : Hid (OW (wr.alloc (.cells #[] 37)) w.heap.size 37 ePair (.slice (some ⟨wr.heap.size, 0, none⟩) 0 0) ([] : List IP)) := hide (OW.empty hzw)
                go_wp2_with (first
                  | (at_builtin; (with_reducible refine list_app (B := w.heap.size) (l := ([] : List IP)) (m := a) row_pair (.slice (some ⟨wr.heap.size, 0, none⟩) 0 0) ?_ (.tmp 165) (.tmp 166) ?_ ?_ ?_ ?_ HM1.out HM2.out ?_ ?_); (with_reducible rfl); (with_reducible rfl); rfl; (exact HE.out); (show RD _ _ (.slice A1 a.length c1) _; exact (RA.out.kp hkp3).alloc _); (simp; omega); intro v11 w11 ho11 hg11 hat11; have hk11 : Kp w5 w11 := Kp.app hg11 hkp3.alloc HHI; have hi11 := own_hi hat11 HHI (by simp; have := hkp3.size; omega); have hz11 := (K5.out.trans hk11).size)
                  | (at_builtin; (with_reducible refine list_app (B := w.heap.size) (l := ([] ++ a : List IP)) (m := b) row_pair v11 ?_ (.tmp 167) (.tmp 168) ?_ ?_ ?_ ?_ HM3.out HM4.out ?_ ?_); (with_reducible rfl); (with_reducible rfl); rfl; (exact ho11); (show RD _ _ (.slice A2 b.length c2) _; exact RB.out.kp hk11); (exact hz11); intro v12 w12 ho12 hg12 hat12; have hk12 : Kp w5 w12 := Kp.app hg12 hk11 hi11))
                have HO12 := hide ho12.rd
                refine (heapTree_any 1000 ([] ++ a ++ b) _ _ (by simp; omega) (by omega) HO12.out).mono ?_
                rintro e w13 ⟨p13, rfl, ht13, hk13⟩
                have q13 : Kp w5 w13 := hk12.trans hk13
                have HT13 := hide ht13
                clear hk13 ht13
                go_wp2_with fail
                refine (spots_any (heapTree ([] ++ a ++ b)) p13 0 _ HT13.out (by omega) (by rw [heapTree_size]; simp; omega)).mono ?_
                rintro e w14 ⟨v14, rfl, ho14, hk14⟩
                have q14 : Kp w5 w14 := q13.trans hk14
                have HO14 := hide ho14.rd
                clear hk14 ho14
                go_wp2_with fail
                refine (sameSpots_to _ _ true _ _ _ (R2.out.kp q14) HO14.out (by rw [List.nil_append]; exact hsj.out)).mono ?_
                rintro e w15 ⟨rfl, hk15⟩
                have q15 : Kp w5 w15 := q14.trans hk15
                clear hk15
                go_wp2
                go_ret
                exact ⟨by simp, (K5.out.trans q15).bel⟩
            · obtain ⟨x, hx, y, hy, hxy⟩ := hex
              have hm : meets a b = true := meets_true a b HMA.out HMB.out x y hx hy hxy
              have hjo : joinOf a b = ([], 3) := by rw [joinOf, if_neg (by simp [HMA.out]), if_neg (by simp [HMB.out]), hm]; rfl
              have e9 : (joinOf a b).1.length = 0 := by rw [hjo]; rfl
              have e10 : (joinOf a b).2 = 3 := by rw [hjo]
              clear hjo hm hx hy hxy
              go_wp2
              go_ret
              exact ⟨by simp, (K5.out.trans hkp3).bel⟩
      · have h2 : (mapRight b == 0) = false := by simp [hmb]
        have h3 : (mapRight b != 0) = true := by simp [hmb]
        have e9 : (joinOf a b).1.length = 0 := by rw [joinOf, if_neg (by simp [HMA.out]), if_pos hmb]; rfl
        have e10 : (joinOf a b).2 = mapRight b := by rw [joinOf, if_neg (by simp [HMA.out]), if_pos hmb]
        clear hmb
        go_wp2
        go_ret
        exact ⟨by simp, (K5.out.trans q10).bel⟩
    · have h1 : (mapRight a != 0) = true := by simp [hma]
      have e7 : (heapOf a).1.length = 0 := by rw [heapOf, if_neg hma]; rfl
      have e8 : (heapOf a).2 = mapRight a := by rw [heapOf, if_neg hma]
      have e9 : (joinOf a b).1.length = 0 := by rw [joinOf, if_pos hma]; rfl
      have e10 : (joinOf a b).2 = mapRight a := by rw [joinOf, if_pos hma]
      clear hma
      go_wp2
      go_ret
      exact ⟨by simp, (K5.out.trans q6).bel⟩
  · have hle : leastOf l = (leastL l, 0) := by rw [leastOf, if_neg hlen]
    simp only [hle] at R3 hd3 ⊢
    have hll := leastL_len l
    have g1 : (leastL l).length ≤ l.length := by omega
    have g2 : l.length ≤ (leastL l).length := by omega
    have hd200 : decide ((200 : Int) < (l.length : Int)) = false := by simp; omega
    have hneq : (((leastL l).length : Int) != (l.length : Int)) = false := by simp; omega
    have HLL := hide hll
    clear hll hle
    go_wp2_with fail
    go_loopw [65] (S1 l w5) (fun i _ => l.length - (intOf i).toNat)
    case atStart => exact ⟨0, by omega, rfl, k5⟩
    case round =>
      obtain ⟨k, hk, rfl, hkp⟩ := hrel
      by_cases hlt : k < l.length
      · obtain ⟨b3, o3, rfl, _, cn⟩ := (R3.out.kp hkp).int (k := k) (by omega)
        obtain ⟨b4, o4, rfl, _, ck⟩ := (RL.out.kp hkp).int hlt
        rw [leastL_at l k hlt] at cn
        obtain ⟨wo, rfl⟩ : ∃ wo : World, wo = wr := ⟨_, rfl⟩
        obtain ⟨q, hq⟩ : ∃ q, q = nl l (iv l k) k := ⟨_, rfl⟩
        rw [← hq] at cn
        have HQ := hide hq
        clear hq
        have hd66 : decide (k < (leastL l).length) = true := by simp; omega
        go_wp2_with fail
        go_loopw [15, 71] (S2 l k w5) (fun _ i _ => k - (intOf i).toNat)
        case atStart => exact ⟨0, by omega, rfl, rfl, hkp⟩
        case round =>
          obtain ⟨j, hj, rfl, rfl, hkp2⟩ := hrel
          by_cases hltj : j < k
          · obtain ⟨b5, o5, e5, _, cj⟩ := (RL.out.kp hkp2).int (k := j) (by omega)
            injection e5 with e5
            injection e5 with e6 e7
            subst e6 e7
            have ck2 : wr.cell? ⟨b4, o4 + k, none⟩ = some (.int .i64 l[k]) := by
              obtain ⟨b5, o5, e5, _, q⟩ := (RL.out.kp hkp2).int (k := k) hlt
              injection e5 with e5
              injection e5 with e6 e7
              subst e6 e7
              exact q
            have hjl : (j : Int) < (l.length : Int) := by omega
            have hkl : (k : Int) < (l.length : Int) := by omega
            by_cases hcmp : l[j] < l[k]
            · have hnl : Hid (nl l (iv l k) (j + 1) = j) := hide (by rw [nl, if_pos (by rw [iv_eq l j (by omega), iv_eq l k hlt]; exact hcmp)])
              go_wp2_with fail
              go_quiet (fail)
              go_wp2
              go_roundw
              case rel => first | exact ⟨j + 1, by omega, by go_num, by rw [hnl.out], hkp2.drewN⟩ | ((repeat apply Exists.intro); exact ⟨⟨j + 1, by omega, by go_num, by rw [hnl.out], hkp2.drewN⟩, rfl⟩)
              case measure => simp [intOf]; omega
            · have hnl : Hid (nl l (iv l k) (j + 1) = nl l (iv l k) j) := hide (by rw [nl, if_neg (by rw [iv_eq l j (by omega), iv_eq l k hlt]; exact hcmp)])
              go_wp2_with fail
              go_quiet (fail)
              go_wp2
              go_roundw
              case rel => first | exact ⟨j + 1, by omega, by go_num, by rw [hnl.out], hkp2.drewN⟩ | ((repeat apply Exists.intro); exact ⟨⟨j + 1, by omega, by go_num, by rw [hnl.out], hkp2.drewN⟩, rfl⟩)
              case measure => simp [intOf]; omega
          · have hjk : j = k := by omega
            have hne : (q != nl l (iv l k) j) = false := by rw [HQ.out, hjk]; simp
            have HJ := hide hjk
            clear hjk
            go_wp2
            go_roundw
            case rel => exact ⟨k + 1, by omega, by go_num, hkp2⟩
            case measure => simp [intOf]; omega
      · go_wp2_with fail
        refine (mapRight_any a _ _ (RA.out.kp hkp)).mono ?_
        rintro e w6 ⟨rfl, hk6⟩
        have q6 : Kp w5 w6 := hkp.trans hk6
        clear hk6
        by_cases hma : mapRight a = 0
        · have hla := mapRight_len a hma
          have e8 : (heapOf a).2 = 0 := by rw [heapOf, if_pos hma]
          have hss : Hid (decide ((heapOf a).1 = (heapTree a).spots 0) = true) := hide (by rw [heapOf, if_pos hma]; simp)
          have h1 : (mapRight a != 0) = false := by simp [hma]
          have HMA := hide hma
          clear hma
          go_wp2_with fail
          refine (heapTree_any 1000 a _ _ (by omega) (by omega) (RA.out.kp q6)).mono ?_
          rintro e w7 ⟨p7, rfl, ht7, hk7⟩
          have q7 : Kp w5 w7 := q6.trans hk7
          have HT7 := hide ht7
          clear hk7 ht7
          go_wp2_with fail
          refine (spots_any (heapTree a) p7 0 _ HT7.out (by omega) (by rw [heapTree_size]; omega)).mono ?_
          rintro e w8 ⟨v8, rfl, ho8, hk8⟩
          have q8 : Kp w5 w8 := q7.trans hk8
          have HO8 := hide ho8.rd
          clear hk8 ho8
          go_wp2_with fail
          refine (sameSpots_to _ _ true _ _ _ (R1.out.kp q8) HO8.out hss.out).mono ?_
          rintro e w9 ⟨rfl, hk9⟩
          have q9 : Kp w5 w9 := q8.trans hk9
          clear hk9
          go_wp2_with fail
          refine (mapRight_any b _ _ (RB.out.kp q9)).mono ?_
          rintro e w10 ⟨rfl, hk10⟩
          have q10 : Kp w5 w10 := q9.trans hk10
          clear hk10
          by_cases hmb : mapRight b = 0
          · have h2 : (mapRight b == 0) = true := by simp [hmb]
            have hlb := mapRight_len b hmb
            have HMB := hide hmb
            clear hmb
            go_wp2
            go_loopw [18, 127] (S3 a b w5) (fun _ i _ => a.length - (intOf i).toNat)
            case atStart => exact ⟨0, 0, by omega, rfl, by rw [HMB.out], .inl ⟨rfl, by simp⟩, q10⟩
            case round =>
              obtain ⟨i, sv, hi, rfl, rfl, hs, hkp3⟩ := hrel
              have HS := hide hs
              clear hs
              by_cases hlti : i < a.length
              · obtain ⟨b6, o6, rfl, _, x0, x1⟩ := (RA.out.kp hkp3).pair hlti
                obtain ⟨wo, rfl⟩ : ∃ wo : World, wo = wr := ⟨_, rfl⟩
                go_wp2
                go_loopw [18, 133] (S4 a b i (wo.alloc (.cells #[.int .i64 a[i].1, .int .i64 a[i].2] 37))) (fun _ j _ => b.length - (intOf j).toNat)
                case atStart => exact ⟨0, sv, by omega, rfl, rfl, HS.out.imp (fun h => ⟨h.1, h.2, by simp⟩) id, Kp.refl _⟩
                case round =>
                  obtain ⟨j, sv2, hj, rfl, rfl, hs2, hkp4⟩ := hrel
                  have HS2 := hide hs2
                  clear hs2
                  have hk54 : Kp w5 wr := (hkp3.alloc).trans hkp4
                  by_cases hltj : j < b.length
                  · obtain ⟨b7, o7, rfl, _, y0, y1⟩ := (RB.out.kp hk54).pair hltj
                    have p0 : wr.cell? ⟨wo.heap.size, 0, none⟩ = some (.int .i64 a[i].1) := hkp4.cell (cell_of_row _ _ 0 _ _ (0, 0) (heap_alloc_new wo _))
                    have hsz : wo.heap.size < wr.heap.size := by have h := hkp4.size; simp at h; omega
                    by_cases hcmp : b[j].1 ≤ a[i].1
                    · go_wp2
                      go_roundw
                      case rel => exact ⟨j + 1, 3, by omega, by go_num, rfl, .inr ⟨rfl, _, List.getElem_mem hlti, _, List.getElem_mem hltj, hcmp⟩, (by (focus ((repeat (first | (with_reducible assumption) | (with_reducible exact Kp.refl _) | (with_reducible apply Kp.drew) | (with_reducible apply Kp.drewN) | ((with_reducible apply Kp.setR); (focus (first | (with_reducible assumption) | (simp; done) | (simp; omega)))) | (with_reducible apply Kp.alloc) | ((with_reducible apply Kp.call); (with_reducible assumption)) | ((with_reducible apply Kp.app); (with_reducible assumption)))); done)))⟩
                      case measure => simp [intOf]; omega
                    · have hnew : Hid ((sv2 = 0 ∧ (∀ x ∈ a.take i, ∀ y ∈ b, x.1 < y.1) ∧ ∀ y ∈ b.take (j + 1), a[i].1 < y.1) ∨ (sv2 = 3 ∧ ∃ x ∈ a, ∃ y ∈ b, y.1 ≤ x.1)) := hide (HS2.out.imp (fun h => ⟨h.1, h.2.1, fun y hy => by
                          rw [List.take_succ_eq_append_getElem hltj] at hy
                          rcases List.mem_append.1 hy with hy | hy
                          · have := h.2.2 hlti y hy; exact this
                          · simp at hy; subst hy; omega⟩) id)
                      go_wp2
                      go_roundw
                      case rel => exact ⟨j + 1, sv2, by omega, by go_num, rfl, hnew.out.imp (fun h => ⟨h.1, h.2.1, fun _ => h.2.2⟩) id, (by (focus ((repeat (first | (with_reducible assumption) | (with_reducible exact Kp.refl _) | (with_reducible apply Kp.drew) | (with_reducible apply Kp.drewN) | ((with_reducible apply Kp.setR); (focus (first | (with_reducible assumption) | (simp; done) | (simp; omega)))) | (with_reducible apply Kp.alloc) | ((with_reducible apply Kp.call); (with_reducible assumption)) | ((with_reducible apply Kp.app); (with_reducible assumption)))); done)))⟩
                      case measure => simp [intOf]; omega
                  · have hnew : Hid ((sv2 = 0 ∧ ∀ x ∈ a.take (i + 1), ∀ y ∈ b, x.1 < y.1) ∨ (sv2 = 3 ∧ ∃ x ∈ a, ∃ y ∈ b, y.1 ≤ x.1)) := hide (HS2.out.imp (fun h => ⟨h.1, fun x hx y hy => by
                        rw [List.take_succ_eq_append_getElem hlti] at hx
                        rcases List.mem_append.1 hx with hx | hx
                        · exact h.2.1 x hx y hy
                        · simp at hx; subst hx
                          exact h.2.2 hlti y (by rw [List.take_of_length_le (by omega)]; exact hy)⟩) id)
                    go_wp2
                    go_roundw
                    case rel => exact ⟨i + 1, sv2, by omega, by go_num, rfl, hnew.out, hk54⟩
                    case measure => simp [intOf]; omega
              · have hs' : Hid ((sv = 0 ∧ ∀ x ∈ a, ∀ y ∈ b, x.1 < y.1) ∨ (sv = 3 ∧ ∃ x ∈ a, ∃ y ∈ b, y.1 ≤ x.1)) := hide (by have h := HS.out; rwa [List.take_of_length_le (by omega)] at h)
                rcases hs'.out with ⟨rfl, hall⟩ | ⟨rfl, hex⟩
                · have hm : meets a b = false := meets_false a b hall
                  have hjo : joinOf a b = heapOf (a ++ b) := by rw [joinOf, if_neg (by simp [HMA.out]), if_neg (by simp [HMB.out]), hm]; rfl
                  have hmr := mapRight_append a b HMA.out HMB.out hall
                  have hwl : IntKind.i64.wrap ((a.length : Int) + (b.length : Int)) = (a.length : Int) + (b.length : Int) := IntWalk.i64_in _ (by omega)
                  by_cases hbig : a.length + b.length > 200
                  · rw [if_pos hbig] at hmr
                    have e9 : (joinOf a b).1.length = 0 := by rw [hjo, heapOf, if_neg (by rw [hmr]; decide)]; rfl
                    have e10 : (joinOf a b).2 = 2 := by rw [hjo, heapOf, if_neg (by rw [hmr]; decide), hmr]
                    clear hjo hmr hm hall
                    go_wp2
                    go_ret
                    exact ⟨by simp, (K5.out.trans hkp3).bel⟩
                  · rw [if_neg hbig] at hmr
                    have e10 : (joinOf a b).2 = 0 := by rw [hjo, heapOf, if_pos hmr]
                    have hsj : Hid (decide ((joinOf a b).1 = (heapTree (a ++ b)).spots 0) = true) := hide (by rw [hjo, heapOf, if_pos hmr]; simp)
                    clear hjo hmr hm hall
                    have HM1 : Hid ((([] : List IP).length + a.length) * 16 ≤ 140737488355328) := hide (by simp; omega)
                    have HM2 : Hid (([] : List IP).length + a.length ≤ maxLen) := hide (by simp [maxLen]; omega)
                    have HM3 : Hid ((([] ++ a : List IP).length + b.length) * 16 ≤ 140737488355328) := hide (by simp; omega)
                    have HM4 : Hid (([] ++ a : List IP).length + b.length ≤ maxLen) := hide (by simp [maxLen]; omega)
                    have hzw : w.heap.size ≤ wr.heap.size := (K5.out.trans hkp3).size
                    have HHI : Hi w5.heap.size (.slice (some ⟨wr.heap.size, 0, none⟩) 0 0) := fun k hk => by simp [Value.ownBlock] at hk; subst hk; exact hkp3.size
                    have HE : Hid (OW (wr.alloc (.cells #[] 37)) w.heap.size 37 ePair (.slice (some ⟨wr.heap.size, 0, none⟩) 0 0) ([] : List IP)) := hide (OW.empty hzw)
                    go_wp2_with (first
                      | (at_builtin; (with_reducible refine list_app (B := w.heap.size) (l := ([] : List IP)) (m := a) row_pair (.slice (some ⟨wr.heap.size, 0, none⟩) 0 0) ?_ (.tmp 165) (.tmp 166) ?_ ?_ ?_ ?_ HM1.out HM2.out ?_ ?_); (with_reducible rfl); (with_reducible rfl); rfl; (exact HE.out); (show RD _ _ (.slice A1 a.length c1) _; exact (RA.out.kp hkp3).alloc _); (simp; omega); intro v11 w11 ho11 hg11 hat11; have hk11 : Kp w5 w11 := Kp.app hg11 hkp3.alloc HHI; have hi11 := own_hi hat11 HHI (by simp; have := hkp3.size; omega); have hz11 := (K5.out.trans hk11).size)
                      | (at_builtin; (with_reducible refine list_app (B := w.heap.size) (l := ([] ++ a : List IP)) (m := b) row_pair v11 ?_ (.tmp 167) (.tmp 168) ?_ ?_ ?_ ?_ HM3.out HM4.out ?_ ?_); (with_reducible rfl); (with_reducible rfl); rfl; (exact ho11); (show RD _ _ (.slice A2 b.length c2) _; exact RB.out.kp hk11); (exact hz11); intro v12 w12 ho12 hg12 hat12; have hk12 : Kp w5 w12 := Kp.app hg12 hk11 hi11))
                    have HO12 := hide ho12.rd
                    refine (heapTree_any 1000 ([] ++ a ++ b) _ _ (by simp; omega) (by omega) HO12.out).mono ?_
                    rintro e w13 ⟨p13, rfl, ht13, hk13⟩
                    have q13 : Kp w5 w13 := hk12.trans hk13
                    have HT13 := hide ht13
                    clear hk13 ht13
                    go_wp2_with fail
                    refine (spots_any (heapTree ([] ++ a ++ b)) p13 0 _ HT13.out (by omega) (by rw [heapTree_size]; simp; omega)).mono ?_
                    rintro e w14 ⟨v14, rfl, ho14, hk14⟩
                    have q14 : Kp w5 w14 := q13.trans hk14
                    have HO14 := hide ho14.rd
                    clear hk14 ho14
                    go_wp2_with fail
                    refine (sameSpots_to _ _ true _ _ _ (R2.out.kp q14) HO14.out (by rw [List.nil_append]; exact hsj.out)).mono ?_
                    rintro e w15 ⟨rfl, hk15⟩
                    have q15 : Kp w5 w15 := q14.trans hk15
                    clear hk15
                    go_wp2
                    go_ret
                    exact ⟨by simp, (K5.out.trans q15).bel⟩
                · obtain ⟨x, hx, y, hy, hxy⟩ := hex
                  have hm : meets a b = true := meets_true a b HMA.out HMB.out x y hx hy hxy
                  have hjo : joinOf a b = ([], 3) := by rw [joinOf, if_neg (by simp [HMA.out]), if_neg (by simp [HMB.out]), hm]; rfl
                  have e9 : (joinOf a b).1.length = 0 := by rw [hjo]; rfl
                  have e10 : (joinOf a b).2 = 3 := by rw [hjo]
                  clear hjo hm hx hy hxy
                  go_wp2
                  go_ret
                  exact ⟨by simp, (K5.out.trans hkp3).bel⟩
          · have h2 : (mapRight b == 0) = false := by simp [hmb]
            have h3 : (mapRight b != 0) = true := by simp [hmb]
            have e9 : (joinOf a b).1.length = 0 := by rw [joinOf, if_neg (by simp [HMA.out]), if_pos hmb]; rfl
            have e10 : (joinOf a b).2 = mapRight b := by rw [joinOf, if_neg (by simp [HMA.out]), if_pos hmb]
            clear hmb
            go_wp2
            go_ret
            exact ⟨by simp, (K5.out.trans q10).bel⟩
        · have h1 : (mapRight a != 0) = true := by simp [hma]
          have e7 : (heapOf a).1.length = 0 := by rw [heapOf, if_neg hma]; rfl
          have e8 : (heapOf a).2 = mapRight a := by rw [heapOf, if_neg hma]
          have e9 : (joinOf a b).1.length = 0 := by rw [joinOf, if_pos hma]; rfl
          have e10 : (joinOf a b).2 = mapRight a := by rw [joinOf, if_pos hma]
          clear hma
          go_wp2
          go_ret
          exact ⟨by simp, (K5.out.trans q6).bel⟩
end Go.Proofs.Ythbapflabjogkaa
