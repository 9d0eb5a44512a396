/-
  hedgkeep.BestMore: the plain law, and the walk: it answers true. Conditions: the lists read as ints (RD).
  hedgkeep.BestMore: THE STATEMENT: for every input it answers true. Conditions: none.
-/
import Derived.Test.YtpmhpogkpkhbfaaG15
import Derived.Test.YtpmhpogkpkhbfaaG16
import Derived.Test.YtpmhpogkpkhbfaaG3

namespace Go.Proofs.Ytpmhpogkpkhbfaa
open Go.ChangeShapes Go.WideShapes Go.ChangeAt Go.RowKit
set_option linter.unusedVariables false
set_option linter.unusedSimpArgs false

theorem OW.setInt {w : World} {B : Nat} {e : TypeId} {g n c : Nat} {l : List Int} (h : OW w B e eInt (.slice (some ⟨g, 0, none⟩) n c) l) (k : Nat) (hk : k < l.length) (x : Int) :
    OW (w.setCell ⟨g, k, none⟩ (.int .i64 x)) B e eInt (.slice (some ⟨g, 0, none⟩) n c) (l.set k x) := by
  obtain ⟨cur, hbk, hB, hnc, hcm, hcl, htk, hn⟩ := BK.of_ow h
  have hes : eInt.size = 1 := rfl
  rw [hes] at hcl htk
  have hn' : n = (l.set k x).length := by simp [hn]
  have hb2 : BK (w.setCell ⟨g, k, none⟩ (.int .i64 x)) g e (cur.set k (.int .i64 x)) := by
    unfold BK at hbk ⊢
    simp only [World.setCell, Array.getElem?_modify, hbk]
    simp
  rw [hn']
  refine BK.ow (E := eInt) hb2 hB (by omega) hcm (by rw [List.length_set, hcl, hes]) ?_
  rw [flat_int, List.map_set, hes, List.take_set]
  simp only [List.length_set]
  rw [← hn, htk, flat_int]
theorem OW.cellInt {w : World} {B : Nat} {e : TypeId} {g n c : Nat} {l : List Int} (h : OW w B e eInt (.slice (some ⟨g, 0, none⟩) n c) l) (k : Nat) (hk : k < l.length) :
    w.cell? ⟨g, k, none⟩ = some (.int .i64 l[k]) ∧ w.frozen? ⟨g, k, none⟩ = false := by
  obtain ⟨cur, hbk, _, _, _, _, _, hn⟩ := BK.of_ow h
  subst hn
  obtain ⟨b, o, e1, _, c1⟩ := h.rd.int hk
  injection e1 with e1
  injection e1 with e2 e3
  subst e2 e3
  refine ⟨by rwa [Nat.zero_add] at c1, ?_⟩
  unfold BK at hbk
  simp [World.frozen?, hbk]
theorem gD_set {l : List Int} {k : Nat} (hk : k < l.length) (x : Int) (j : Nat) : gD (l.set k (gD l k + x)) j = gD l j + if j = k then x else 0 := by
  rw [gD, gD, List.getD_eq_getElem?_getD, List.getD_eq_getElem?_getD]
  by_cases e : j = k
  · subst e
    rw [List.getElem?_set_self hk, if_pos rfl, gD, List.getD_eq_getElem?_getD]; rfl
  · rw [List.getElem?_set_ne (Ne.symm e), if_neg e]; simp [gD, List.getD_eq_getElem?_getD]
theorem gD_map {l : List Int} {t : Int} (j : Nat) : gD (l.map (· * t)) j = gD l j * t := by
  rw [gD, gD, List.getD_eq_getElem?_getD, List.getD_eq_getElem?_getD, List.getElem?_map]
  cases l[j]? <;> simp
theorem trB_more {h g : List Int} {k : Nat} {m : Int} (h0 : brR h g = 0) (hk : k < h.length) (hm : 0 ≤ m) (he : (trB (h.set k (gD h k + m)) g).2.2 = 0) :
    (trB h g).2.1 ≤ (trB (h.set k (gD h k + m)) g).2.1 ∧ (trB (h.set k (gD h k + m)) g).2.1 ≤ (trB h g).2.1 + m * (h.length : Int) := by
  obtain ⟨b1, b2, b3, b4⟩ := brR_ok h0
  have e1 : brR (h.set k (gD h k + m)) g = 0 := by
    unfold trB at he
    by_cases e : brR (h.set k (gD h k + m)) g = 0
    · exact e
    · rw [if_neg e] at he; exact he
  unfold trB
  rw [if_pos h0, if_pos e1, List.length_set]
  simp only
  have := bc_more (h := gD h) (h' := gD (h.set k (gD h k + m))) (g := gD g) hm (gD_set hk m) (fun k => (gD_in b3 k).1) (fun k => (gD_in b4 k).1) h.length 0 h.length (Nat.le_refl _) (Nat.zero_le _)
  simpa using this
theorem trB_times {h g : List Int} {t : Int} (h0 : brR h g = 0) (ht : 0 ≤ t) (he : (trB (h.map (· * t)) (g.map (· * t))).2.2 = 0) : (trB (h.map (· * t)) (g.map (· * t))).2.1 = (trB h g).2.1 * t := by
  obtain ⟨b1, b2, b3, b4⟩ := brR_ok h0
  have e1 : brR (h.map (· * t)) (g.map (· * t)) = 0 := by
    unfold trB at he
    by_cases e : brR (h.map (· * t)) (g.map (· * t)) = 0
    · exact e
    · rw [if_neg e] at he; exact he
  unfold trB
  rw [if_pos h0, if_pos e1, List.length_map]
  simp only
  exact bc_times (h := gD h) (g := gD g) ht gD_map gD_map (fun k => (gD_in b3 k).1) (fun k => (gD_in b4 k).1) h.length 0 h.length (Nat.le_refl _) (Nat.zero_le _)
theorem trB_cost {h g : List Int} (h0 : brR h g = 0) : 0 ≤ (trB h g).2.1 ∧ (trB h g).2.1 ≤ 820000 ∧ (trB h g).2.2 = 0 := by
  obtain ⟨b1, b2, b3, b4⟩ := brR_ok h0
  unfold trB
  rw [if_pos h0]
  simp only
  have h1 := bc_le (h := gD h) (g := gD g) (fun k => (gD_in b3 k).1) (fun k => (gD_in b4 k).1) (fun k => (gD_in b3 k).2) (fun k => (gD_in b4 k).2) 20 0 h.length (by omega) (by omega) b1
  have h2 := bc_pos (h := gD h) (g := gD g) (fun k => (gD_in b3 k).1) (fun k => (gD_in b4 k).1) h.length 0 h.length (Nat.le_refl _)
  exact ⟨h2, by omega, trivial⟩
def BmRel (l : List Int) (t : Int) (w : World) (ov iv : Value) (wr : World) : Prop := ∃ k : Nat, k ≤ l.length ∧ iv = .int .i64 (k : Int) ∧ OW wr w.heap.size 3 eInt ov ((l.take k).map (· * t)) ∧ Kp w wr
set_option maxRecDepth 100000 in
set_option maxHeartbeats 8000000 in
theorem bestMore_walk (hits gaps : List Int) (k more times : Int) (v u : Value) (w : World) (hr : RD w eInt v hits) (hu : RD w eInt u gaps) (hk : -9223372036854775808 ≤ k ∧ k ≤ 9223372036854775807) (hmo : -9223372036854775808 ≤ more ∧ more ≤ 9223372036854775807) (htm : -9223372036854775808 ≤ times ∧ times ≤ 9223372036854775807) :
    Calls Try.prog 4 #[v, u, .int .i64 k, .int .i64 more, .int .i64 times] w (Ret (.bool true) w) := by
  have H0 := hide (bTree_any hits gaps v u w hr hu)
  have HTR := hide (fun l m W v u h1 h2 => bTree_any l m v u W h1 h2)
  have HCL := hide (fun W h1 h2 => cloneInts_any hits v W h1 h2)
  obtain ⟨A1, c1, rfl, _, _⟩ := hr.shape
  obtain ⟨A2, c2, rfl, _, _⟩ := hu.shape
  have HR := hide hr
  have HU := hide hu
  clear hr hu hk hmo htm
  by_cases he : brR hits gaps = 0
  · obtain ⟨p1, p2, p3⟩ := trB_cost he
    have hcost := trB_more (k := k.toNat) (m := more) he
    have htimes := trB_times (t := times) he
    obtain ⟨b1, b2, b3, b4⟩ := brR_ok he
    obtain ⟨⟨s0, n0, e0⟩, ht0⟩ : ∃ t, t = trB hits gaps := ⟨_, rfl⟩
    rw [← ht0] at H0 p1 p2 p3 hcost htimes
    simp only at p1 p2 p3 hcost htimes
    subst p3
    by_cases hgood : 0 ≤ k ∧ k < hits.length ∧ 0 ≤ more ∧ more ≤ 1000 ∧ 0 ≤ times ∧ times ≤ 1000
    · obtain ⟨q1, q2, q3, q4, q5, q6⟩ := hgood
      obtain ⟨kn, rfl⟩ : ∃ kn : Nat, k = (kn : Int) := ⟨k.toNat, by omega⟩
      rw [Int.toNat_natCast] at hcost
      have hkl : kn < hits.length := by omega
      have hcost := hcost hkl q3
      have htimes := htimes q5
      have hkb := gD_in b3 kn
      obtain ⟨h', hh'⟩ : ∃ h', h' = hits.set kn (gD hits kn + more) := ⟨_, rfl⟩
      obtain ⟨⟨s1, m1, f1⟩, ht1⟩ : ∃ t, t = trB h' gaps := ⟨_, rfl⟩
      obtain ⟨⟨s2, o2, g2⟩, ht2⟩ : ∃ t, t = trB (hits.map (· * times)) (gaps.map (· * times)) := ⟨_, rfl⟩
      rw [← hh', ← ht1] at hcost
      rw [← ht2] at htimes
      simp only at hcost htimes
      have HT1 := hide (fun W v u h1 h2 => HTR.out h' gaps W v u h1 h2)
      have HT2 := hide (fun W v u h1 h2 => HTR.out (hits.map (· * times)) (gaps.map (· * times)) W v u h1 h2)
      rw [← ht1] at HT1
      rw [← ht2] at HT2
      have hm1 := mul_in q3 q4 (show (0 : Int) ≤ (hits.length : Int) by omega) (show (hits.length : Int) ≤ 20 by omega)
      have hm2 := mul_in p1 p2 q5 q6
      obtain ⟨P, hP⟩ : ∃ P, P = more * (hits.length : Int) := ⟨_, rfl⟩
      obtain ⟨Q, hQ⟩ : ∃ Q, Q = n0 * times := ⟨_, rfl⟩
      obtain ⟨x, hx⟩ : ∃ x, x = gD hits kn := ⟨_, rfl⟩
      obtain ⟨y, hy⟩ : ∃ y, y = x + more := ⟨_, rfl⟩
      obtain ⟨nP, hnP⟩ : ∃ nP, nP = n0 + P := ⟨_, rfl⟩
      rw [← hP] at hcost hm1
      rw [← hnP] at hcost
      rw [← hQ] at hm2 htimes
      rw [← hx] at hkb hh'
      rw [← hy] at hh'
      have w1' : IntKind.i64.wrap (x + more) = y := by rw [IntWalk.i64_in _ (by omega), hy]
      have w2' : IntKind.i64.wrap (more * (hits.length : Int)) = P := by rw [← hP]; exact IntWalk.i64_in _ (by omega)
      have w3' : IntKind.i64.wrap (n0 + P) = nP := by rw [IntWalk.i64_in _ (by omega), hnP]
      have w4' : IntKind.i64.wrap (n0 * times) = Q := by rw [← hQ]; exact IntWalk.i64_in _ (by omega)
      have d1 : decide ((kn : Int) < 0) = false := decide_eq_false (by omega)
      have d2 : decide ((hits.length : Int) ≤ (kn : Int)) = false := decide_eq_false (by omega)
      have d2' : decide (hits.length ≤ kn) = false := decide_eq_false (by omega)
      have d3 : decide (more < 0) = false := decide_eq_false (by omega)
      have d4 : decide (1000 < more) = false := decide_eq_false (by omega)
      have d5 : decide (times < 0) = false := decide_eq_false (by omega)
      have d6 : decide (1000 < times) = false := decide_eq_false (by omega)
      have HMU : Hid (∀ z : Int, 0 ≤ z ∧ z ≤ 1000 → IntKind.i64.wrap (z * times) = z * times) := hide (fun z hz => by
        have := mul_in hz.1 hz.2 q5 q6
        exact IntWalk.i64_in _ (by omega))
      have HB3 := hide b3
      have HB4 := hide b4
      have HLN := hide b1
      have HGL := hide b2
      have hl20 := b1
      have HX := hide hx
      have HHH := hide hh'
      have HC := hide hcost
      have HTI := hide htimes
      have HNP := hide hnP
      have hn0 := p1
      clear he ht0 ht1 ht2 hcost htimes b1 b2 b3 b4 p2 q1 q2 q3 q4 q5 q6 hm1 hm2 hP hQ hx hy hh' hkb hnP hn0 p1
      go_enter Try.func4, Try.ntmps4
      go_wp2_with fail
      with_reducible refine H0.out.mono ?_
      rintro e w1 ⟨v1, rfl, hr1, kk1⟩
      obtain ⟨A3, c3, rfl, _, _⟩ := hr1.shape
      clear hr1
      go_wp2_with fail
      with_reducible refine (bestLives_any _).mono ?_
      rintro e w2 ⟨rfl, hb2⟩
      have K2 := hide (kk1.trans (Kp.of hb2))
      clear hb2 kk1
      go_wp2_with fail
      with_reducible refine (HCL.out w2 (HR.out.kp K2.out) (by omega)).mono ?_
      rintro e w3 ⟨v3, rfl, ho3, hb3⟩
      have K3 := hide (K2.out.trans (Kp.of hb3))
      obtain ⟨G, C, rfl⟩ : ∃ G C, v3 = .slice (some ⟨G, 0, none⟩) hits.length C := by
        obtain ⟨e1, h | ⟨g, cap, cur, hv, _⟩⟩ := ho3
        · have := h.2; omega
        · exact ⟨g, cap, hv⟩
      obtain ⟨y0, f0⟩ := ho3.cellInt kn hkl
      rw [gD_at hkl, ← HX.out] at y0
      have HO4 := hide (ho3.setInt kn hkl y)
      rw [← HHH.out] at HO4
      have HGE : Hid (w2.heap.size ≤ G) := hide ((ho3.lt G rfl).1)
      have hkl' : kn < hits.length := hkl
      clear ho3 hb3
      have HGL2 : Hid (w.heap.size ≤ G) := hide (Nat.le_trans K2.out.size HGE.out)
      go_wp2_with fail
      obtain ⟨W4, hW4⟩ : ∃ W4, W4 = w3.setCell ⟨G, kn, none⟩ (.int .i64 y) := ⟨_, rfl⟩
      have hK4 : Kp w W4 := by rw [hW4]; exact K3.out.set HGL2.out _
      rw [← hW4] at HO4 ⊢
      have K4 := hide hK4
      clear hW4 hK4 y0 f0
      with_reducible refine (HT1.out W4 _ _ HO4.out.rd (HU.out.kp K4.out)).mono ?_
      rintro e w5 ⟨v5, rfl, hr5, kk5⟩
      obtain ⟨A5, c5, rfl, _, _⟩ := hr5.shape
      have K5 := hide (K4.out.trans kk5)
      clear hr5 kk5
      go_wp2
      go_loopw [18, 85] (BmRel hits times w5) (fun _ j _ => hits.length - (intOf j).toNat)
      case atStart => exact ⟨0, by omega, rfl, OW.nil, Kp.refl _⟩
      case round =>
        obtain ⟨j, hj, rfl, ho, hkp⟩ := hrel
        have HKP := hide hkp
        have HO := hide ho
        have hhi := ho.hi
        by_cases hlt : j < hits.length
        · obtain ⟨b, o, e, _, c0⟩ := (HR.out.kp (K5.out.trans hkp)).int hlt
          cases e
          have hz := HMU.out (hits)[j] (HB3.out _ (List.getElem_mem hlt))
          obtain ⟨z, hzz⟩ : ∃ z, z = (hits)[j] := ⟨_, rfl⟩
          obtain ⟨zt, hzt⟩ : ∃ zt, zt = z * times := ⟨_, rfl⟩
          rw [← hzz] at c0 hz
          have hzw : IntKind.i64.wrap (z * times) = zt := hz.trans hzt.symm
          obtain ⟨X, hX⟩ : ∃ X, X = ((hits).take j).map (· * times) := ⟨_, rfl⟩
          have HN : Hid (X ++ [zt] = ((hits).take (j + 1)).map (· * times)) := hide (by rw [List.take_succ_eq_append_getElem hlt, List.map_append, hX, hzt, hzz]; rfl)
          have hXl : X.length ≤ 21 := by rw [hX]; simp; omega
          rw [← hX] at HO
          have HM1 : Hid ((X.length + [zt].length) * 8 ≤ 140737488355328) := hide (by simp; omega)
          have HM2 : Hid (X.length + [zt].length ≤ maxLen) := hide (by simp [maxLen]; omega)
          clear hz hzz hzt hX hkp
          go_wp2_with (at_builtin; (with_reducible refine list_app (B := w5.heap.size) (l := X) (m := [zt]) row_int u18 ?_ (.tmp 89) (.tmp 93) ?_ ?_ ?_ ?_ HM1.out HM2.out ?_ ?_); (with_reducible rfl); (with_reducible rfl); rfl; (exact HO.out.alloc _); (show RD _ _ (.slice (some ⟨_, 0, none⟩) 1 1) _; (focus ((repeat (first | (with_reducible assumption) | exact RD.new1 _ rfl | (refine RD.new1e _ ?_ rfl; simp; done) | (with_reducible apply RD.alloc) | (with_reducible apply RD.drew) | (with_reducible apply RD.drewN) | ((with_reducible apply RD.belowR); (with_reducible assumption)))); done))); (have := HKP.out.size; simp; omega); intro v3 w3' ho3 hg3 hat3)
          go_roundw
          case rel => exact ⟨j + 1, by omega, by go_num, by rw [← HN.out]; exact ho3, Kp.app hg3 HKP.out.alloc hhi⟩
          case measure => simp [intOf]; omega
        · obtain rfl : j = hits.length := by omega
          have HA : Hid (RD wr eInt u18 (hits.map (· * times))) := hide (by have := ho.rd; rwa [List.take_length] at this)
          obtain ⟨wa, rfl⟩ : ∃ x, x = wr := ⟨_, rfl⟩
          have K6 := hide (K5.out.trans hkp)
          clear ho hkp hhi
          go_wp2
          go_loopw [19, 98] (BmRel gaps times wa) (fun _ j _ => gaps.length - (intOf j).toNat)
          case atStart => exact ⟨0, by omega, rfl, OW.nil, Kp.refl _⟩
          case round =>
            obtain ⟨j, hj, rfl, ho, hkp⟩ := hrel
            have HKP := hide hkp
            have HO := hide ho
            have hhi := ho.hi
            have hgl21 : gaps.length ≤ 21 := by have := HGL.out; omega
            by_cases hlt : j < gaps.length
            · obtain ⟨b, o, e, _, c0⟩ := (HU.out.kp (K6.out.trans hkp)).int hlt
              cases e
              have hz := HMU.out (gaps)[j] (HB4.out _ (List.getElem_mem hlt))
              obtain ⟨z, hzz⟩ : ∃ z, z = (gaps)[j] := ⟨_, rfl⟩
              obtain ⟨zt, hzt⟩ : ∃ zt, zt = z * times := ⟨_, rfl⟩
              rw [← hzz] at c0 hz
              have hzw : IntKind.i64.wrap (z * times) = zt := hz.trans hzt.symm
              obtain ⟨X, hX⟩ : ∃ X, X = ((gaps).take j).map (· * times) := ⟨_, rfl⟩
              have HN : Hid (X ++ [zt] = ((gaps).take (j + 1)).map (· * times)) := hide (by rw [List.take_succ_eq_append_getElem hlt, List.map_append, hX, hzt, hzz]; rfl)
              have hXl : X.length ≤ 21 := by rw [hX]; simp; omega
              rw [← hX] at HO
              have HM1 : Hid ((X.length + [zt].length) * 8 ≤ 140737488355328) := hide (by simp; omega)
              have HM2 : Hid (X.length + [zt].length ≤ maxLen) := hide (by simp [maxLen]; omega)
              clear hz hzz hzt hX hkp
              go_wp2_with (at_builtin; (with_reducible refine list_app (B := wa.heap.size) (l := X) (m := [zt]) row_int u19 ?_ (.tmp 102) (.tmp 106) ?_ ?_ ?_ ?_ HM1.out HM2.out ?_ ?_); (with_reducible rfl); (with_reducible rfl); rfl; (exact HO.out.alloc _); (show RD _ _ (.slice (some ⟨_, 0, none⟩) 1 1) _; (focus ((repeat (first | (with_reducible assumption) | exact RD.new1 _ rfl | (refine RD.new1e _ ?_ rfl; simp; done) | (with_reducible apply RD.alloc) | (with_reducible apply RD.drew) | (with_reducible apply RD.drewN) | ((with_reducible apply RD.belowR); (with_reducible assumption)))); done))); (have := HKP.out.size; simp; omega); intro v3 w3' ho3 hg3 hat3)
              go_roundw
              case rel => exact ⟨j + 1, by omega, by go_num, by rw [← HN.out]; exact ho3, Kp.app hg3 HKP.out.alloc hhi⟩
              case measure => simp [intOf]; omega
            · obtain rfl : j = gaps.length := by omega
              have HBB : Hid (RD wr eInt u19 (gaps.map (· * times))) := hide (by have := ho.rd; rwa [List.take_length] at this)
              have HA2 := hide (HA.out.kp hkp)
              have K7 := hide (K6.out.trans hkp)
              clear ho hkp hhi
              go_wp2_with fail
              with_reducible refine (HT2.out _ _ _ HA2.out HBB.out).mono ?_
              rintro e w9 ⟨v9, rfl, hr9, kk9⟩
              obtain ⟨A9, c9, rfl, _, _⟩ := hr9.shape
              have K9 := hide (K7.out.trans kk9)
              clear hr9 kk9
              by_cases hf : f1 = 0
              · have hc := HC.out hf
                have x1 : (f1 != 0) = false := by simp [hf]
                have x2 : decide (n0 ≤ m1) = true := decide_eq_true hc.1
                have x3 : decide (m1 ≤ nP) = true := decide_eq_true hc.2
                clear hc hf
                by_cases hg2 : g2 = 0
                · have x4 : (g2 != 0) = false := by simp [hg2]
                  have x5 : (o2 == Q) = true := by simp [HTI.out hg2]
                  clear hg2
                  go_wp2
                  go_ret
                  exact ⟨rfl, K9.out.bel⟩
                · have x4 : (g2 != 0) = true := by simpa using hg2
                  clear hg2
                  go_wp2
                  go_ret
                  exact ⟨rfl, K9.out.bel⟩
              · have x1 : (f1 != 0) = true := by simpa using hf
                clear hf
                by_cases hg2 : g2 = 0
                · have x4 : (g2 != 0) = false := by simp [hg2]
                  have x5 : (o2 == Q) = true := by simp [HTI.out hg2]
                  clear hg2
                  go_wp2
                  go_ret
                  exact ⟨rfl, K9.out.bel⟩
                · have x4 : (g2 != 0) = true := by simpa using hg2
                  clear hg2
                  go_wp2
                  go_ret
                  exact ⟨rfl, K9.out.bel⟩
    · clear he ht0 hcost htimes b1 b2 b3 b4 p1 p2
      by_cases z1 : k < 0
      · have d1 : decide (k < 0) = true := decide_eq_true z1
        clear hgood z1
        go_enter Try.func4, Try.ntmps4
        go_wp2_with fail
        with_reducible refine H0.out.mono ?_
        rintro e w1 ⟨v1, rfl, hr1, kk1⟩
        obtain ⟨A3, c3, rfl, _, _⟩ := hr1.shape
        clear hr1
        go_wp2_with fail
        with_reducible refine (bestLives_any _).mono ?_
        rintro e w2 ⟨rfl, hb2⟩
        have kk2 := Kp.of hb2
        clear hb2
        go_wp2_with fail
        with_reducible refine (bestLives_any _).mono ?_
        rintro e w3 ⟨rfl, hb3⟩
        have kk3 := Kp.of hb3
        clear hb3
        go_wp2
        go_ret
        exact ⟨rfl, (kk1.trans (kk2.trans kk3)).bel⟩
      · have d1 : decide (k < 0) = false := decide_eq_false z1
        by_cases z2 : (hits.length : Int) ≤ k
        · have d2 : decide ((hits.length : Int) ≤ k) = true := decide_eq_true z2
          clear hgood z1 z2
          go_enter Try.func4, Try.ntmps4
          go_wp2_with fail
          with_reducible refine H0.out.mono ?_
          rintro e w1 ⟨v1, rfl, hr1, kk1⟩
          obtain ⟨A3, c3, rfl, _, _⟩ := hr1.shape
          clear hr1
          go_wp2_with fail
          with_reducible refine (bestLives_any _).mono ?_
          rintro e w2 ⟨rfl, hb2⟩
          have kk2 := Kp.of hb2
          clear hb2
          go_wp2_with fail
          with_reducible refine (bestLives_any _).mono ?_
          rintro e w3 ⟨rfl, hb3⟩
          have kk3 := Kp.of hb3
          clear hb3
          go_wp2
          go_ret
          exact ⟨rfl, (kk1.trans (kk2.trans kk3)).bel⟩
        · have d2 : decide ((hits.length : Int) ≤ k) = false := decide_eq_false z2
          by_cases z3 : more < 0
          · have d3 : decide (more < 0) = true := decide_eq_true z3
            clear hgood z1 z2 z3
            go_enter Try.func4, Try.ntmps4
            go_wp2_with fail
            with_reducible refine H0.out.mono ?_
            rintro e w1 ⟨v1, rfl, hr1, kk1⟩
            obtain ⟨A3, c3, rfl, _, _⟩ := hr1.shape
            clear hr1
            go_wp2_with fail
            with_reducible refine (bestLives_any _).mono ?_
            rintro e w2 ⟨rfl, hb2⟩
            have kk2 := Kp.of hb2
            clear hb2
            go_wp2_with fail
            with_reducible refine (bestLives_any _).mono ?_
            rintro e w3 ⟨rfl, hb3⟩
            have kk3 := Kp.of hb3
            clear hb3
            go_wp2
            go_ret
            exact ⟨rfl, (kk1.trans (kk2.trans kk3)).bel⟩
          · have d3 : decide (more < 0) = false := decide_eq_false z3
            by_cases z4 : 1000 < more
            · have d4 : decide (1000 < more) = true := decide_eq_true z4
              clear hgood z1 z2 z3 z4
              go_enter Try.func4, Try.ntmps4
              go_wp2_with fail
              with_reducible refine H0.out.mono ?_
              rintro e w1 ⟨v1, rfl, hr1, kk1⟩
              obtain ⟨A3, c3, rfl, _, _⟩ := hr1.shape
              clear hr1
              go_wp2_with fail
              with_reducible refine (bestLives_any _).mono ?_
              rintro e w2 ⟨rfl, hb2⟩
              have kk2 := Kp.of hb2
              clear hb2
              go_wp2_with fail
              with_reducible refine (bestLives_any _).mono ?_
              rintro e w3 ⟨rfl, hb3⟩
              have kk3 := Kp.of hb3
              clear hb3
              go_wp2
              go_ret
              exact ⟨rfl, (kk1.trans (kk2.trans kk3)).bel⟩
            · have d4 : decide (1000 < more) = false := decide_eq_false z4
              by_cases z5 : times < 0
              · have d5 : decide (times < 0) = true := decide_eq_true z5
                clear hgood z1 z2 z3 z4 z5
                go_enter Try.func4, Try.ntmps4
                go_wp2_with fail
                with_reducible refine H0.out.mono ?_
                rintro e w1 ⟨v1, rfl, hr1, kk1⟩
                obtain ⟨A3, c3, rfl, _, _⟩ := hr1.shape
                clear hr1
                go_wp2_with fail
                with_reducible refine (bestLives_any _).mono ?_
                rintro e w2 ⟨rfl, hb2⟩
                have kk2 := Kp.of hb2
                clear hb2
                go_wp2_with fail
                with_reducible refine (bestLives_any _).mono ?_
                rintro e w3 ⟨rfl, hb3⟩
                have kk3 := Kp.of hb3
                clear hb3
                go_wp2
                go_ret
                exact ⟨rfl, (kk1.trans (kk2.trans kk3)).bel⟩
              · have d5 : decide (times < 0) = false := decide_eq_false z5
                have d6 : decide (1000 < times) = true := decide_eq_true (by omega)
                clear hgood z1 z2 z3 z4 z5
                go_enter Try.func4, Try.ntmps4
                go_wp2_with fail
                with_reducible refine H0.out.mono ?_
                rintro e w1 ⟨v1, rfl, hr1, kk1⟩
                obtain ⟨A3, c3, rfl, _, _⟩ := hr1.shape
                clear hr1
                go_wp2_with fail
                with_reducible refine (bestLives_any _).mono ?_
                rintro e w2 ⟨rfl, hb2⟩
                have kk2 := Kp.of hb2
                clear hb2
                go_wp2_with fail
                with_reducible refine (bestLives_any _).mono ?_
                rintro e w3 ⟨rfl, hb3⟩
                have kk3 := Kp.of hb3
                clear hb3
                go_wp2
                go_ret
                exact ⟨rfl, (kk1.trans (kk2.trans kk3)).bel⟩
  · have hte : trB hits gaps = ([], 0, brR hits gaps) := if_neg he
    rw [hte] at H0
    obtain ⟨er, her⟩ : ∃ er, er = brR hits gaps := ⟨_, rfl⟩
    rw [← her] at H0 he
    have d0 : (er != 0) = true := by simpa using he
    clear he her hte
    go_enter Try.func4, Try.ntmps4
    go_wp2_with fail
    with_reducible refine H0.out.mono ?_
    rintro e w1 ⟨v1, rfl, hr1, kk1⟩
    obtain ⟨A3, c3, rfl, _, _⟩ := hr1.shape
    clear hr1
    go_wp2_with fail
    with_reducible refine (bestLives_any _).mono ?_
    rintro e w2 ⟨rfl, hb2⟩
    have kk2 := Kp.of hb2
    clear hb2
    go_wp2_with fail
    with_reducible refine (bestLives_any _).mono ?_
    rintro e w3 ⟨rfl, hb3⟩
    have kk3 := Kp.of hb3
    clear hb3
    go_wp2
    go_ret
    exact ⟨rfl, (kk1.trans (kk2.trans kk3)).bel⟩
end Go.Proofs.Ytpmhpogkpkhbfaa
namespace Go.Proofs.Ytpmhpogkpkhbfaa
open Go.ChangeShapes Go.WideShapes Go.ChangeAt Go.RowKit Go.Deep
set_option linter.unusedVariables false
set_option linter.unusedSimpArgs false

set_option maxRecDepth 100000 in
theorem bestMore_lifted (os : Os) (started : os.Started) (H : Type) (enc : TypeId × Value → H) :
    ReturnsInHanded {} Try.checked os 4 .any (Rows.bestMoreSpec.pre6 enc Try.prog Try.f4 Rows.bestMoreRow.domain false) (Rows.bestMoreSpec.post enc Try.prog Try.f4 false true false false) := by
  refine returnsInHanded_of_change (C := Try.checked) own started (by kernel_rfl) Try.func4
    (ChangeSpec.witness6 (enc := enc) (C := Try.checked) false ⟨#[], #[.slice none 0 0, .slice none 0 0, .int .i64 0, .int .i64 0, .int .i64 0], []⟩ 8 (by kernel_rfl) (by kernel_rfl) (by kernel_rfl) (by kernel_rfl)) ?_
  intro W base args ds gs before hval0 hW hcnd _
  have hval : ∀ (j : Nat) t v, Try.f4.params[j]? = some t → args[j]? = some v → Value.okWide Try.prog W .any base t v := hval0
  have hW' := hW
  obtain ⟨p, q, hA0, hV, rfl, hfz, hnd⟩ := hW
  have hA : DataW.TrodAll enc Try.prog W 0 (fun _ => true) true Try.f4.params.toList args.toList ds p := hA0
  rw [Try.params4] at hA hval
  obtain ⟨v0, vs0, d0, ds0, p0, q0, hargs, rfl, rfl, h0, r0⟩ := trodAll_cons hA
  obtain ⟨v1, vs1, d1, ds1, p1, q1, rfl, rfl, rfl, h1, r1⟩ := trodAll_cons r0
  obtain ⟨v2, vs2, d2, ds2, p2, q2, rfl, rfl, rfl, h2, r2⟩ := trodAll_cons r1
  obtain ⟨v3, vs3, d3, ds3, p3, q3, rfl, rfl, rfl, h3, r3⟩ := trodAll_cons r2
  obtain ⟨v4, vs4, d4, ds4, p4, q4, rfl, rfl, rfl, h4, r4⟩ := trodAll_cons r3
  obtain ⟨rfl, rfl, rfl⟩ := trodAll_nil r4
  obtain rfl : args = #[v0, v1, v2, v3, v4] := by cases args; simp_all
  obtain ⟨rfl, rfl⟩ := trodVars_none hV
  obtain ⟨a0, n0, c0, rfl⟩ := okWide_slice Try.underlying22 (hval 0 22 v0 rfl rfl)
  obtain ⟨a1, n1, c1, rfl⟩ := okWide_slice Try.underlying22 (hval 1 22 v1 rfl rfl)
  obtain ⟨n2, rfl⟩ := okWide_int Try.underlying3 (hval 2 3 v2 rfl rfl)
  obtain ⟨n3, rfl⟩ := okWide_int Try.underlying3 (hval 3 3 v3 rfl rfl)
  obtain ⟨n4, rfl⟩ := okWide_int Try.underlying3 (hval 4 3 v4 rfl rfl)
  have lt0 : ∀ x ∈ p0, x.block < W.heap.size := by obtain ⟨m, hm⟩ := h0; exact DataW.trod_lt m _ _ _ hm
  have lt1 : ∀ x ∈ p1, x.block < W.heap.size := by obtain ⟨m, hm⟩ := h1; exact DataW.trod_lt m _ _ _ hm
  have lt2 : ∀ x ∈ p2, x.block < W.heap.size := by obtain ⟨m, hm⟩ := h2; exact DataW.trod_lt m _ _ _ hm
  have lt3 : ∀ x ∈ p3, x.block < W.heap.size := by obtain ⟨m, hm⟩ := h3; exact DataW.trod_lt m _ _ _ hm
  have lt4 : ∀ x ∈ p4, x.block < W.heap.size := by obtain ⟨m, hm⟩ := h4; exact DataW.trod_lt m _ _ _ hm
  obtain ⟨l0, w0⟩ := arg_ints h0
  obtain ⟨l1, w1⟩ := arg_ints h1
  have w2 : -9223372036854775808 ≤ n2 ∧ n2 ≤ 9223372036854775807 := by obtain ⟨m, hm⟩ := h2; exact wf_i64 Try.underlying3 hm
  have w3 : -9223372036854775808 ≤ n3 ∧ n3 ≤ 9223372036854775807 := by obtain ⟨m, hm⟩ := h3; exact wf_i64 Try.underlying3 hm
  have w4 : -9223372036854775808 ≤ n4 ∧ n4 ≤ 9223372036854775807 := by obtain ⟨m, hm⟩ := h4; exact wf_i64 Try.underlying3 hm
  clear hA0 hval0
  refine (bestMore_walk l0 l1 n2 n3 n4 _ _ W w0 w1 w2 w3 w4).mono fun e W' ⟨he, bel⟩ => ?_
  subst he
  exact ⟨_, rfl, _, _, _, [], _, [], hW', trodAll_mk1 (shut_bool Try.underlying4 _), (trodAll_cons_mk (Below.trod laidOut (by kernel_rfl) (of_decide_eq_true (by kernel_rfl)) h0 bel lt0) (trodAll_cons_mk (Below.trod laidOut (by kernel_rfl) (of_decide_eq_true (by kernel_rfl)) h1 bel lt1) (trodAll_cons_mk (Below.trod laidOut (by kernel_rfl) (of_decide_eq_true (by kernel_rfl)) h2 bel lt2) (trodAll_cons_mk (Below.trod laidOut (by kernel_rfl) (of_decide_eq_true (by kernel_rfl)) h3 bel lt3) (trodAll_cons_mk (Below.trod laidOut (by kernel_rfl) (of_decide_eq_true (by kernel_rfl)) h4 bel lt4) trodAll_mk0))))), rfl, bel.frame _, fun h => by cases h⟩

set_option maxRecDepth 100000 in
set_option maxHeartbeats 8000000 in
theorem bestMore_closed : joinedFacts Try.checked.prog 4 Try.f4 Rows.bestMoreSpec Rows.bestMoreRow = true := by
  unfold joinedFacts
  repeat' (with_reducible refine and_true_of ?_ ?_)
  all_goals (as_aux_lemma => kernel_rfl)
theorem bestMore_over : Rows.bestMoreRow.holds Try.pinned (OpenSpec.ofChange Rows.bestMoreSpec) :=
  OpenClaim.holds_of_wide 4 Try.f4 rfl rfl rfl rfl rfl rfl rfl ⟨rfl, rfl, rfl, rfl, rfl⟩ rfl rfl rfl rfl rfl (by as_aux_lemma => kernel_rfl) Try.func4 bestMore_closed
    (of_decide_eq_true (by as_aux_lemma => kernel_rfl)) (by as_aux_lemma => unfold Func.isWrapper; first | (rw [if_pos (by decide +kernel)]; kernel_rfl) | (rw [if_neg (by decide +kernel)]; exact ⟨rfl, rfl⟩))
    (fun os started H enc _ => bestMore_lifted os started H enc)
theorem bestMore_proved : Rows.BestMoreSaid := bestMore_over
#print axioms bestMore_proved
end Go.Proofs.Ytpmhpogkpkhbfaa
