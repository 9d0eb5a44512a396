/-
  hedgkeep.HeapLeast: the walk: it answers true. Conditions: the list reads as l (RD).
-/
import Derived.Test.YthbapflabjogkaaHeapAnc
import Derived.Test.YthbapflabjogkaaHeapLives
namespace Go.Proofs.Ythbapflabjogkaa
open Go.ChangeShapes Go.WideShapes Go.ChangeAt Go.RowKit
set_option linter.unusedVariables false
set_option linter.unusedSimpArgs false

/-- Places with numbers turned for ranks. -/
def mkP (l : List Int) : List IP := (List.range l.length).map fun (k : Nat) => (((k : Int), - iv l k) : IP)
theorem mkP_len (l : List Int) : (mkP l).length = l.length := by simp [mkP]
theorem mkP_at (l : List Int) (k : Nat) (h : k < l.length) : (mkP l)[k]'(by rw [mkP_len]; exact h) = ((k : Int), - iv l k) := by simp [mkP]
theorem mkP_from (l : List Int) (hl : l.length ≤ 200) : ∀ n k, k + n = l.length → mrFrom ((k : Int) - 1) ((mkP l).drop k) = 0
  | 0, k, h => by rw [List.drop_of_length_le (by rw [mkP_len]; omega)]; rfl
  | n + 1, k, h => by
    rw [mrFrom_drop _ k (by rw [mkP_len]; omega), mkP_at l k (by omega)]
    simp only
    rw [if_pos ((btw_iff _ _ _).2 (by omega))]
    have := mkP_from l hl n (k + 1) (by omega)
    rwa [show (((k + 1 : Nat) : Int) - 1) = (k : Int) from by omega] at this
theorem mkP_right (l : List Int) (hl : l.length ≤ 200) : mapRight (mkP l) = 0 := by
  rw [mapRight, mkP_len, if_neg (by omega)]
  exact mkP_from l hl l.length 0 (by omega)
theorem mkP_take (l : List Int) (k : Nat) (h : k < l.length) : (mkP l).take k ++ [((k : Int), - l[k])] = (mkP l).take (k + 1) := by
  rw [List.take_succ_eq_append_getElem (by rw [mkP_len]; exact h), mkP_at l k h, iv_eq l k h]

/-- The way up from k in the tree of places: so far all that were passed fail. -/
theorem least_find (l : List Int) (k : Nat) (h : k < l.length) : ((ptree (mkP l) 0).anc k).find? (fun a => decide (a < k ∧ iv l a < iv l k)) = near (iv l) (iv l k) 0 k :=
  anc_near (iv l) (mkP l) 0 (fun i hi => by rw [mkP_len] at hi; rw [mkP_at l i hi, Nat.zero_add]) k (by omega) (by rw [mkP_len]; omega)

def P1 (l : List Int) (w : World) (pv i : Value) (wr : World) : Prop :=
  ∃ k : Nat, k ≤ l.length ∧ i = .int .i64 k ∧ OW wr w.heap.size 37 ePair pv ((mkP l).take k) ∧ Kp w wr
def P2 (l : List Int) (w : World) (i : Value) (wr : World) : Prop := ∃ k : Nat, k ≤ l.length ∧ i = .int .i64 k ∧ Kp w wr
def P3 (l : List Int) (U : List Int) (k : Nat) (w : World) (av : Value) (wr : World) : Prop :=
  ∃ (x : Int) (s : List Nat), av = .int .i64 x ∧ Chain U x s ∧ s.length ≤ 300 ∧ s.find? (fun a => decide (a < k ∧ iv l a < iv l k)) = near (iv l) (iv l k) 0 k ∧ k ∉ s ∧ Kp w wr

set_option maxRecDepth 100000 in
set_option maxHeartbeats 8000000 in
theorem heapLeast_walk (l : List Int) (v : Value) (w : World) (hr : RD w eInt v l) : Calls Try.prog 5 #[v] w (Ret (.bool true) w) := by
  obtain ⟨A, c, rfl, hc, hm⟩ := hr.shape
  have HR := hide hr
  clear hr
  by_cases h200 : l.length > 200
  · have hlo : leastOf l = ([], 2) := by rw [leastOf, if_pos h200]
    have H1 := hide (fun W v h => least_any l v W h)
    rw [hlo] at H1
    clear hlo
    go_enter Try.func5, Try.ntmps5
    go_wp2_with fail
    refine (H1.out _ _ HR.out).mono ?_
    rintro e w1 ⟨v1, rfl, hr1, hb1⟩
    have k1 : Kp w w1 := hb1
    clear hr1 hb1
    go_wp2_with fail
    refine (heapLives_any _).mono ?_
    rintro e w2 ⟨rfl, hb2⟩
    have k2 : Kp w w2 := k1.trans hb2
    clear hb2
    go_wp2_with fail
    refine (heapLives_any _).mono ?_
    rintro e w3 ⟨rfl, hb3⟩
    go_wp2
    go_ret
    exact ⟨rfl, (k2.trans hb3).bel⟩
  · have hlo : leastOf l = (leastL l, 0) := by rw [leastOf, if_neg h200]
    have H1 := hide (fun W v h => least_any l v W h)
    rw [hlo] at H1
    have HLL := hide (leastL_len l)
    clear hlo
    by_cases h60 : l.length > 60
    · go_enter Try.func5, Try.ntmps5
      go_wp2_with fail
      refine (H1.out _ _ HR.out).mono ?_
      rintro e w1 ⟨v1, rfl, hr1, hb1⟩
      have k1 : Kp w w1 := hb1
      clear hr1 hb1
      go_wp2_with fail
      refine (heapLives_any _).mono ?_
      rintro e w2 ⟨rfl, hb2⟩
      have k2 : Kp w w2 := k1.trans hb2
      clear hb2
      go_wp2_with fail
      refine (heapLives_any _).mono ?_
      rintro e w3 ⟨rfl, hb3⟩
      go_wp2
      go_ret
      exact ⟨rfl, (k2.trans hb3).bel⟩
    · have h0 := mkP_right l (by omega)
      have hml := mkP_len l
      have hof : heapOf (mkP l) = ((heapTree (mkP l)).spots 0, 0) := by rw [heapOf, if_pos h0]
      have hpo := parOf_heap (mkP l) h0
      have hpl : (hPar (mkP l)).length = l.length := by rw [hPar_len, hml]
      have H2 := hide (fun W v h => heapOf_any (mkP l) v W h)
      have H3 := hide (fun W v h => parents_of ((heapTree (mkP l)).spots 0) v W h)
      rw [hof] at H2
      rw [hpo] at H3
      have HPL := hide hpl
      have HML := hide hml
      clear h0 hof hpo hpl hml
      go_enter Try.func5, Try.ntmps5
      go_wp2_with fail
      refine (H1.out _ _ HR.out).mono ?_
      rintro e w1 ⟨v1, rfl, hr1, hb1⟩
      have k1 : Kp w w1 := hb1
      obtain ⟨A1, c1, rfl, hc1, hm1⟩ := hr1.shape
      have HR1 := hide hr1
      clear hr1 hb1
      go_wp2_with fail
      refine (heapLives_any _).mono ?_
      rintro e w2 ⟨rfl, hb2⟩
      have k12 : Kp w1 w2 := hb2
      have k2 : Kp w w2 := k1.trans k12
      clear hb2
      go_wp2_with fail
      go_loopw [5, 33] (P1 l w2) (fun _ i _ => l.length - (intOf i).toNat)
      case atStart => exact ⟨0, by omega, rfl, OW.nil, Kp.refl _⟩
      case round =>
        obtain ⟨k, hk, rfl, ho, hkp⟩ := hrel
        have hi := ho.hi
        obtain ⟨A5, c5, hv5, hc5, hm5⟩ := ho.rd.shape
        have hml : ((mkP l).take k).length = k := by rw [List.length_take, HML.out]; omega
        rw [hml] at hv5 hc5
        subst hv5
        by_cases hlt : k < l.length
        · obtain ⟨b, o, rfl, _, c0⟩ := (HR.out.kp (k2.trans hkp)).int hlt
          by_cases hlo : l[k] < -1000000000
          · clear hml
            go_wp2
            go_ret
            exact ⟨rfl, (k2.trans hkp).bel⟩
          · by_cases hhi : 1000000000 < l[k]
            · clear hml
              go_wp2
              go_ret
              exact ⟨rfl, (k2.trans hkp).bel⟩
            · have HM1 : Hid ((((mkP l).take k).length + [((k : Int), - l[k])].length) * 16 ≤ 140737488355328) := hide (by rw [hml]; simp; omega)
              have HM2 : Hid (((mkP l).take k).length + [((k : Int), - l[k])].length ≤ maxLen) := hide (by rw [hml]; simp [maxLen]; omega)
              have HT := hide (mkP_take l k hlt)
              have b1 : -1000000000 ≤ l[k] := by omega
              have b2 : l[k] ≤ 1000000000 := by omega
              clear hml hlo hhi
              go_wp2_with (at_builtin; (with_reducible refine list_app (B := w2.heap.size) (l := (mkP l).take k) (m := [((k : Int), - l[k])]) row_pair (.slice A5 k c5) ?_ (.tmp 44) (.tmp 49) ?_ ?_ ?_ ?_ HM1.out HM2.out ?_ ?_); (with_reducible rfl); (with_reducible rfl); rfl; (focus ((repeat (first | (with_reducible assumption) | (with_reducible apply OW.alloc) | (with_reducible apply OW.drew) | (with_reducible apply OW.drewN) | ((with_reducible apply OW.setCellR); (with_reducible assumption)) | ((with_reducible apply OW.belowR); (with_reducible assumption)) | ((with_reducible apply OW.keptR); (with_reducible assumption); (with_reducible assumption)))); done)); (show RD _ _ (.slice (some ⟨_, 0, none⟩) 1 1) _; (focus ((repeat (first | (with_reducible assumption) | exact RD.new1 _ rfl | (refine RD.new1e _ ?_ rfl; simp; done) | (with_reducible apply RD.alloc) | (with_reducible apply RD.drew) | (with_reducible apply RD.drewN) | ((with_reducible apply RD.belowR); (with_reducible assumption)))); done))); (exact Kp.size (w := w2) (by (focus ((repeat (first | (with_reducible assumption) | (with_reducible exact Kp.refl _) | (with_reducible apply Kp.drew) | (with_reducible apply Kp.drewN) | ((with_reducible apply Kp.setR); (focus (first | (with_reducible assumption) | (simp; done) | (simp; omega)))) | (with_reducible apply Kp.alloc) | ((with_reducible apply Kp.call); (with_reducible assumption)) | ((with_reducible apply Kp.app); (with_reducible assumption)))); done)))); intro v3 w3 ho3 hg3 hat3)
              go_roundw
              case rel => exact ⟨k + 1, by omega, by go_num, by rw [← HT.out]; exact ho3, (by (focus ((repeat (first | (with_reducible assumption) | (with_reducible exact Kp.refl _) | (with_reducible apply Kp.drew) | (with_reducible apply Kp.drewN) | ((with_reducible apply Kp.setR); (focus (first | (with_reducible assumption) | (simp; done) | (simp; omega)))) | (with_reducible apply Kp.alloc) | ((with_reducible apply Kp.call); (with_reducible assumption)) | ((with_reducible apply Kp.app); (with_reducible assumption)))); done)))⟩
              case measure => simp [intOf]; omega
        · have HO : Hid (RD wr ePair (.slice A5 k c5) (mkP l)) := hide (by
            have h := ho.rd
            rwa [List.take_of_length_le (by rw [HML.out]; omega)] at h)
          clear ho hml hi
          go_wp2_with fail
          refine (H2.out _ _ HO.out).mono ?_
          rintro e w3 ⟨v3, rfl, hr3, hb3⟩
          have k3 : Kp w2 w3 := hkp.trans hb3
          have HR3 := hide hr3
          clear hr3 hb3
          go_wp2_with fail
          refine (H3.out _ _ HR3.out).mono ?_
          rintro e w4 ⟨v4, rfl, hr4, hb4⟩
          have k4 : Kp w2 w4 := k3.trans hb4
          obtain ⟨A4, c4, rfl, hc4, hm4⟩ := hr4.shape
          have HR4 := hide hr4
          clear hr4 hb4
          have hok : okL [0, 0] = true := rfl
          go_wp2_with fail
          refine (ok_any [0, 0] _ _ (RD.block (l := [0, 0]) (heap_alloc_new w4 _) rfl (by simp [maxLen]))).mono ?_
          rintro e w5 ⟨rfl, rfl⟩
          have hne : (((hPar (mkP l)).length : Int) != (l.length : Int)) = false := by simp [HPL.out]
          have k5 : Kp w4 (w4.alloc (.cells #[.int .i64 0, .int .i64 0] 25)) := (Kp.refl w4).alloc
          go_wp2_with fail
          go_loopw [76] (P2 l (w4.alloc (.cells #[.int .i64 0, .int .i64 0] 25))) (fun i _ => l.length - (intOf i).toNat)
          case atStart => exact ⟨0, by omega, rfl, Kp.refl _⟩
          case round =>
            obtain ⟨k', hk', rfl, hkp'⟩ := hrel
            have kw : Kp w2 wr := k4.trans (k5.trans hkp')
            have kw0 : Kp w wr := k2.trans kw
            have kw1 : Kp w1 wr := k12.trans kw
            have kw4 : Kp w4 wr := k5.trans hkp'
            by_cases hlt' : k' < l.length
            · have hlp : k' < (hPar (mkP l)).length := by rw [HPL.out]; exact hlt'
              have hll : k' < (leastL l).length := by rw [HLL.out]; exact hlt'
              obtain ⟨b4, o4, rfl, _, cp⟩ := (HR4.out.kp kw4).int hlp
              obtain ⟨b1, o1, rfl, _, cn⟩ := (HR1.out.kp kw1).int hll
              obtain ⟨b0, o0, rfl, _, ck⟩ := (HR.out.kp kw0).int hlt'
              rw [leastL_at l k' hlt'] at cn
              obtain ⟨wo, rfl⟩ : ∃ wo : World, wo = wr := ⟨_, rfl⟩
              obtain ⟨q, hq⟩ : ∃ q, q = nl l (iv l k') k' := ⟨_, rfl⟩
              rw [← hq] at cn
              have HQ := hide hq
              obtain ⟨u, hu⟩ : ∃ u, u = (hPar (mkP l))[k'] := ⟨_, rfl⟩
              rw [← hu] at cp
              have HU := hide hu
              clear hq hu
              have bk : (k' : Int) < (l.length : Int) := by omega
              have bp : (k' : Int) < ((hPar (mkP l)).length : Int) := by omega
              have bl : (k' : Int) < ((leastL l).length : Int) := by omega
              have dp1 : decide (k' < (hPar (mkP l)).length) = true := by simp [hlp]
              have dp2 : decide (k' < (leastL l).length) = true := by simp [hll]
              go_wp2_with fail
              go_loopw [13] (P3 l (hPar (mkP l)) k' wo) (fun x _ => upN (hPar (mkP l)) 300 (intOf x))
              case atStart =>
                refine ⟨u, (ptree (mkP l) 0).anc k', rfl, ?_, ?_, least_find l k' hlt', ?_, Kp.refl _⟩
                · rw [HU.out]; exact PT.chain0 _ (ptree_at _ _) k' (by rw [ptree_size, HML.out]; exact hlt')
                · have := PT.anc_len (ptree (mkP l) 0) k'
                  rw [ptree_size, HML.out] at this; omega
                · exact PT.anc_not _ 0 (ptree_at _ _) k'
              case round =>
                obtain ⟨x, s, rfl, hch, hsl, hf, hns, hkp3⟩ := hrel
                have HF := hide hf
                have HCH := hide hch
                have HNS := hide hns
                have kr : Kp wo wr := hkp3
                have kr0 : Kp w wr := kw0.trans kr
                clear hf hch hns
                by_cases hneg : x = -1
                · have hs : s = [] := by subst hneg; exact HCH.out.neg
                  have hqq : Hid (q = -1) := hide (by
                    have := HF.out
                    rw [HQ.out, nl_near, ← this, hs]; rfl)
                  obtain rfl : q = -1 := hqq.out
                  subst hneg
                  have cn' : wr.cell? ⟨b1, o1 + k', none⟩ = some (.int .i64 (-1)) := kr.cell cn
                  go_wp2_with fail
                  go_quiet (fail)
                  go_wp2
                  go_roundw
                  case rel => exact ⟨k' + 1, by omega, by go_num, hkp'.trans kr.drewN⟩
                  case measure => simp [intOf]; omega
                · obtain ⟨a, rfl⟩ : ∃ a : Nat, x = a := ⟨x.toNat, by have := HCH.out.ge; omega⟩
                  obtain ⟨s', haU, hs, hc'⟩ := HCH.out.at_
                  have hal : a < l.length := by have := HPL.out; omega
                  have hak : a ≠ k' := by
                    intro h
                    apply HNS.out
                    rw [hs, h]; simp
                  have HS := hide hs
                  have HC' := hide hc'
                  obtain ⟨b4', o4', e1, _, cp'⟩ := (HR4.out.kp (kw4.trans kr)).int haU
                  injection e1 with e1
                  injection e1 with e2 e3
                  subst e2 e3
                  obtain ⟨b0', o0', e1, _, ca⟩ := (HR.out.kp kr0).int hal
                  injection e1 with e1
                  injection e1 with e2 e3
                  subst e2 e3
                  have ck' : wr.cell? ⟨b0, o0 + k', none⟩ = some (.int .i64 l[k']) := kr.cell ck
                  have cn' : wr.cell? ⟨b1, o1 + k', none⟩ = some (.int .i64 q) := kr.cell cn
                  have t0 : decide ((0 : Int) ≤ (a : Int)) = true := by simp
                  have ba : (a : Int) < (l.length : Int) := by omega
                  have bp2 : (a : Int) < ((hPar (mkP l)).length : Int) := by omega
                  have ba0 : (0 : Int) ≤ (a : Int) := by omega
                  have bk0 : (0 : Int) ≤ (k' : Int) := by omega
                  have hia := iv_eq l a hal
                  have hik := iv_eq l k' hlt'
                  have hmeas : Hid (upN (hPar (mkP l)) 300 (hPar (mkP l))[a] < upN (hPar (mkP l)) 300 (a : Int)) := hide (by
                    rw [HC'.out.upN 300 (by rw [hs] at hsl; simp at hsl; omega), HCH.out.upN 300 hsl, hs]; simp)
                  obtain ⟨u', hu'⟩ : ∃ u, u = (hPar (mkP l))[a] := ⟨_, rfl⟩
                  rw [← hu'] at cp'
                  have HU' := hide hu'
                  have hstep : Hid (¬ (a < k' ∧ iv l a < iv l k') → P3 l (hPar (mkP l)) k' wo (.int .i64 u') (wr.drewN 0)) := hide (fun hno =>
                    ⟨u', s', rfl, by rw [HU'.out]; exact HC'.out, by have := hsl; rw [HS.out] at this; simp at this; omega, by
                      have := HF.out
                      rw [HS.out, List.find?_cons_of_neg (by simpa using hno)] at this
                      exact this, fun h => HNS.out (by rw [HS.out]; simp [h]), kr⟩)
                  clear hs hc' hu'
                  by_cases hgt : k' < a
                  · have t1 : decide (k' < a) = true := by simp [hgt]
                    have hst := hide (hstep.out (by omega))
                    clear hia hik hgt
                    go_wp2_with fail
                    go_quiet (fail)
                    go_wp2
                    go_roundw
                    case rel => obtain ⟨x2, s2, e, r1, r2, r3, r4, r5⟩ := hst.out; exact ⟨x2, s2, e, r1, r2, r3, r4, kr.drewN⟩
                    case measure => simp only [intOf]; rw [HU'.out]; exact hmeas.out
                  · have t1 : decide (k' < a) = false := by simp; omega
                    by_cases hge : l[k'] ≤ l[a]
                    · have t2 : decide (l[k'] ≤ l[a]) = true := by simp [hge]
                      have hst := hide (hstep.out (by rw [hia, hik]; omega))
                      clear hia hik hge hgt
                      go_wp2_with fail
                      go_quiet (fail)
                      go_wp2
                      go_roundw
                      case rel => obtain ⟨x2, s2, e, r1, r2, r3, r4, r5⟩ := hst.out; exact ⟨x2, s2, e, r1, r2, r3, r4, kr.drewN⟩
                      case measure => simp only [intOf]; rw [HU'.out]; exact hmeas.out
                    · have t2 : decide (l[k'] ≤ l[a]) = false := by simp; omega
                      have hqq : Hid (q = (a : Int)) := hide (by
                        have := HF.out
                        rw [HS.out, List.find?_cons_of_pos (by simp; rw [hia, hik]; omega)] at this
                        rw [HQ.out, nl_near, ← this])
                      obtain rfl : q = (a : Int) := hqq.out
                      clear hia hik hge hgt
                      go_wp2_with fail
                      go_quiet (fail)
                      go_wp2
                      go_roundw
                      case rel => exact ⟨k' + 1, by omega, by go_num, hkp'.trans kr.drewN⟩
                      case measure => simp [intOf]; omega
            · go_wp2
              go_ret
              exact ⟨rfl, kw0.bel⟩
end Go.Proofs.Ythbapflabjogkaa
