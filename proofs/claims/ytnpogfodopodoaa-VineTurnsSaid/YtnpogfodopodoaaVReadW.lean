/-
  vine.read, walked: what it answers. Conditions: the list reads as l (RD).
-/
import Derived.Test.YtnpogfodopodoaaVRead
namespace Go.Proofs.Ytnpogfodopodoaa
open Go.ChangeShapes Go.WideShapes Go.ChangeAt Go.RowKit
set_option linter.unusedVariables false
set_option linter.unusedSimpArgs false

theorem info_vptr : (Try.prog.info? 51).map (fun i => (i.zero, i.size, i.bytes)) = some (some (.pointer none), 1, 8) := by kernel_rfl
theorem row_vptr : Row Try.prog 70 51 ePtr 8 := row_of info_vptr Try.underlying70 rfl rfl (by decide)
set_option maxRecDepth 100000 in
set_option maxHeartbeats 4000000 in
theorem vineRead_any (l : List IP) (v : Value) (w : World) (hr : RD w ePair v l) : Calls Try.prog 23 #[v] w (VRPost 72 l w) := by
  obtain ⟨A, c, rfl, hc, hm⟩ := hr.shape
  have HR := hide hr
  have HPA := hide (fun W v h => parents_of l v W h)
  clear hr
  by_cases h0 : (parOf l).2 = 0
  · obtain ⟨hlen, hmr, t, hpt, hpo⟩ := parOf_len l h0
    obtain ⟨hta, hts, _⟩ := ptR_to l 0 l.length 0 t (by omega) hpt
    have hvt : Hid (vineT l = mtP (l.map Prod.fst) t) := hide (by rw [vineT, if_neg (by simp [h0]), hpt])
    obtain ⟨up, hup⟩ : ∃ up, up = t.pars (-1) := ⟨_, rfl⟩
    have hul : up.length = l.length := by rw [hup, PT.pars_len]; omega
    have hvv : Hid (∀ j, j < l.length → (gI up j = -1) ∨ (0 ≤ gI up j ∧ gI up j < l.length)) := hide fun j hj => by
      obtain ⟨x, h1, h2⟩ := PT.pars_in t 0 (-1) hta j (by omega)
      have : gI up j = x := by rw [gI, hup, List.getD_eq_getElem?_getD, h1]; rfl
      rw [this]
      rcases h2 with h2 | h2
      · exact .inl h2.2
      · have h3 := h2.2; push_cast at h3; exact .inr (by omega)
    have hE : Hid (parOf l = (up, 0)) := hide (by rw [hpo, hup])
    have hUP := hide hup
    have hTA := hide hta
    rw [hE.out] at HPA
    obtain ⟨C, hC, hmk⟩ := run_mk row_vptr none (zero_ptr' info_vptr) l.length (by omega) (by simp [maxLen]; omega)
    clear hpt hpo hup hta hmr
    go_enter Try.func23, Try.ntmps23
    go_wp2_with fail
    with_reducible refine (HPA.out _ _ HR.out).mono ?_
    rintro e w1 ⟨v1, rfl, hr1, hb1⟩
    obtain ⟨A1, c1, rfl, hc1, hm1⟩ := hr1.shape
    simp only at hc1 hr1 ⊢
    have k1 : Kp w w1 := hb1
    have HU := hide hr1
    have HK1 := hide k1
    clear hb1 hr1 k1
    go_wp2
    go_loopw [25] (V1Rel l w1 w1.heap.size 51 72) (fun i _ => l.length - (intOf i).toNat)
    case atStart => exact ⟨0, [], by omega, rfl, rfl, by have h := AR.made (W := w1) (e := 51) hC; simpa [arB] using h, (fun k hk => by simp at hk), (fun k hk => by simp at hk), (fun i j hi => by simp at hi), (Kp.refl w1).alloc⟩
    case round =>
      obtain ⟨k, bl, hk, rfl, hbl, har, hbk, hgt, hinj, hkp⟩ := hrel
      by_cases hlt : k < l.length
      · obtain ⟨b, o, rfl, _, x0, x1⟩ := (HR.out.kp (HK1.out.trans hkp)).pair hlt
        have g0 : wr.cell? ⟨w1.heap.size, k, none⟩ = some (.pointer none) := by
          have h := har.ptr (k := k) (by rw [arB_len _ _ (by omega)]; exact hlt)
          rw [h]
          simp [arB, List.getElem_append_right, hbl]
        have f0 : wr.frozen? ⟨w1.heap.size, k, none⟩ = false := har.frozen k
        have hgl := har.lt
        have g2 : ∀ o1 o2, ((wr.alloc o1).alloc o2).cell? ⟨w1.heap.size, k, none⟩ = some (.pointer none) := fun o1 o2 => ((Kp.refl wr).alloc.alloc).cell g0
        have f2 : ∀ o1 o2, ((wr.alloc o1).alloc o2).frozen? ⟨w1.heap.size, k, none⟩ = false := fun o1 o2 => (((Kp.refl wr).alloc.alloc).frozen hgl).trans f0
        have HAR := hide har
        have HBK := hide hbk
        have HBL := hide hbl
        have HGT := hide hgt
        have HIN := hide hinj
        have HGL := hide hgl
        clear har hbk hgt hinj hbl
        go_wp2
        go_roundw
        case rel =>
          have hz : w1.heap.size < wr.heap.size := HGL.out
          refine ⟨k + 1, bl ++ [wr.heap.size + 1], by omega, by go_num, by simp [HBL.out], ?_, ?_, ?_, ?_, ?_⟩
          · have h := (HAR.out.setPtr (k := k) (mkA (wr.heap.size + 1)))
            have e := arB_set bl l.length (wr.heap.size + 1) (by rw [HBL.out]; exact hlt)
            rw [HBL.out] at e
            rw [e] at h
            exact h.alloc.alloc
          · refine Bks.snoc (Bks.kp (w := wr.setCell ⟨w1.heap.size, k, none⟩ (.pointer (some ⟨wr.heap.size + 1, 0, none⟩))) (fun j hj => (HBK.out j hj).far (by have h := HGT.out j hj; simp only; omega)) (Kp.refl _).alloc.alloc) ?_
            have h := BC.new ((wr.setCell ⟨w1.heap.size, k, none⟩ (.pointer (some ⟨wr.heap.size + 1, 0, none⟩))).alloc (.cells #[.int .i64 l[k].1, .int .i64 l[k].2] 43)) 72 (nodeC eInt l[k].1 none none)
            have e1 : ((wr.setCell ⟨w1.heap.size, k, none⟩ (.pointer (some ⟨wr.heap.size + 1, 0, none⟩))).alloc (.cells #[.int .i64 l[k].1, .int .i64 l[k].2] 43)).heap.size = wr.heap.size + 1 := by simp
            have e2 : (l.map Prod.fst).getD bl.length 0 = l[k].1 := by rw [HBL.out]; simp [List.getD_eq_getElem?_getD, hlt]
            rw [e1] at h
            rw [e2]
            exact h
          · intro j hj
            simp only [List.length_append, List.length_cons, List.length_nil] at hj
            rcases Nat.lt_or_ge j bl.length with h1 | h1
            · rw [getD_snoc_lt h1]; exact HGT.out j h1
            · obtain rfl : j = bl.length := by omega
              rw [getD_snoc_at]; omega
          · refine HIN.out.snoc fun j hj => ?_
            have h := (HBK.out j hj).lt
            omega
          · exact (Kp.set hkp (Nat.le_refl _) _).alloc.alloc
        case measure => simp [intOf]; omega
      · have hkl : k = l.length := by omega
        obtain ⟨wq, rfl⟩ : ∃ x, x = wr := ⟨_, rfl⟩
        have hbn : bl.length = l.length := by omega
        have HAR := hide har
        have HBK := hide hbk
        have HBL := hide hbn
        have HGT := hide hgt
        have HIN := hide hinj
        have HKP := hide hkp
        have hgl := har.lt
        have HGL := hide hgl
        clear har hbk hgt hinj hbl hkl hbn
        go_wp2
        go_loopw [9, 40] (V2Rel l up bl w1 w1.heap.size 51 72) (fun _ i _ => l.length - (intOf i).toNat)
        case atStart => exact ⟨0, by omega, rfl, rfl, HAR.out, HBK.out, HKP.out⟩
        case round =>
          obtain ⟨i, hi, rfl, rfl, har, hbk, hkp2⟩ := hrel
          by_cases hli : i < l.length
          · have hiu : i < up.length := by omega
            obtain ⟨b, o, rfl, _, c0⟩ := (HU.out.kp hkp2).int hiu
            obtain ⟨y, hy⟩ : ∃ y, y = up[i] := ⟨_, rfl⟩
            rw [← hy] at c0
            have hgy : Hid (gI up i = y) := hide (by rw [hy, gI, List.getD_eq_getElem?_getD, List.getElem?_eq_getElem hiu]; rfl)
            have hyv := hvv.out i hli
            rw [hgy.out] at hyv
            have HLE := hide (arB_len bl l.length (by rw [HBL.out]; omega))
            have a0 : wr.cell? ⟨w1.heap.size, i, none⟩ = some (.pointer (some ⟨bl.getD i 0, 0, none⟩)) := by
              have h := har.ptr (k := i) (by rw [HLE.out]; exact hli)
              rw [h, arB_at bl l.length i (by rw [HBL.out]; exact hli)]; rfl
            have HAR2 := hide har
            have HBK2 := hide hbk
            clear har hbk hy
            by_cases hneg : y < 0
            · have HN : Hid (∀ k, lpF up (i + 1) k = lpF up i k ∧ rpF up (i + 1) k = rpF up i k) := hide fun k => ⟨by rw [lpF, if_neg (fun h => by have := h.1; rw [hgy.out] at this; omega)], by rw [rpF, if_neg (fun h => by have := h.1; rw [hgy.out] at this; omega)]⟩
              have HRT : Hid (rtF up (i + 1) = some i) := hide (by rw [rtF, if_pos (by rw [hgy.out]; exact hneg)])
              go_wp2
              go_roundw
              case rel =>
                refine ⟨i + 1, by omega, by go_num, by rw [HRT.out]; rfl, HAR2.out, ?_, hkp2⟩
                have e1 : lpF up (i + 1) = lpF up i := funext fun k => (HN.out k).1
                have e2 : rpF up (i + 1) = rpF up i := funext fun k => (HN.out k).2
                rw [e1, e2]; exact HBK2.out
              case measure => simp [intOf]; omega
            · have HRT : Hid (rtF up (i + 1) = rtF up i) := hide (by rw [rtF, if_neg (by rw [hgy.out]; exact hneg)])
              obtain ⟨p, rfl⟩ : ∃ p : Nat, y = p := ⟨y.toNat, by omega⟩
              have hpl : p < l.length := by omega
              have a1 : wr.cell? ⟨w1.heap.size, p, none⟩ = some (.pointer (some ⟨bl.getD p 0, 0, none⟩)) := by
                have h := HAR2.out.ptr (k := p) (by rw [HLE.out]; exact hpl)
                rw [h, arB_at bl l.length p (by rw [HBL.out]; exact hpl)]; rfl
              have hbp := HBK2.out p (by rw [HBL.out]; exact hpl)
              have c1' : wr.cell? ⟨bl.getD p 0, 1, none⟩ = some (.pointer (adB bl (lpF up i p))) := hbp.link true
              have c2' : wr.cell? ⟨bl.getD p 0, 2, none⟩ = some (.pointer (adB bl (rpF up i p))) := hbp.link false
              have f1' := hbp.frozen 1
              have f2' := hbp.frozen 2
              have d1 : decide ((p : Int) < 0) = false := by simp
              have hq : p < (arB bl l.length).length := by rw [HLE.out]; exact hpl
              obtain ⟨bp, hbpe⟩ : ∃ x, x = bl.getD p 0 := ⟨_, rfl⟩
              obtain ⟨bi, hbie⟩ : ∃ x, x = bl.getD i 0 := ⟨_, rfl⟩
              rw [← hbie] at a0
              rw [← hbpe] at a1 c1' c2' f1' f2'
              have HPG : Hid (w1.heap.size < bp) := hide (by rw [hbpe]; exact HGT.out p (by rw [HBL.out]; exact hpl))
              have n1 : ¬ w1.heap.size = bp := by have := HPG.out; omega
              have n2 : ¬ bp = w1.heap.size := by have := HPG.out; omega
              have HBI : Hid (adB bl (some i) = some ⟨bi, 0, none⟩) := hide (by rw [hbie]; rfl)
              by_cases hip : i < p
              · have d2 : decide ((i : Int) < (p : Int)) = true := by simp; omega
                have HB2 := hide (HBK2.out.set HIN.out p (by rw [HBL.out]; exact hpl) (pl' := lpF up (i + 1)) (pr' := rpF up (i + 1)) true (some i) (fun k _ hne => ⟨by rw [lpF, if_neg (fun h => hne (by have := h.1; rw [hgy.out] at this; omega))], by rw [rpF, if_neg (fun h => hne (by have := h.1; rw [hgy.out] at this; omega))]⟩)
                  (by simp only [if_true]; rw [lpF, if_pos ⟨hgy.out, hip⟩]) (by simp only [if_true]; rw [rpF, if_neg (fun h => by have := h.2; omega)]))
                rw [HBI.out, ← hbpe] at HB2
                clear hbp hbpe hbie
                go_wp2_with fail
                go_region_held3 (fun w' => w'.cell? ⟨w1.heap.size, p, none⟩ = some (.pointer (some ⟨bp, 0, none⟩)) ∧ w'.cell? ⟨w1.heap.size, i, none⟩ = some (.pointer (some ⟨bi, 0, none⟩)))
                  (first | go_keep | fail) (fail)
                go_wp2
                go_roundw
                case rel => exact ⟨i + 1, by omega, by go_num, by rw [HRT.out], (HAR2.out.setCell (by have := HPG.out; simp only; omega)).kp (Kp.refl _).drew, HB2.out.kp (Kp.refl _).drew, (Kp.set hkp2 (Nat.le_of_lt HPG.out) _).drew⟩
                case measure => simp [intOf]; omega
              · have d2 : decide ((i : Int) < (p : Int)) = false := by simp; omega
                have HB2 := hide (HBK2.out.set HIN.out p (by rw [HBL.out]; exact hpl) (pl' := lpF up (i + 1)) (pr' := rpF up (i + 1)) false (some i) (fun k _ hne => ⟨by rw [lpF, if_neg (fun h => hne (by have := h.1; rw [hgy.out] at this; omega))], by rw [rpF, if_neg (fun h => hne (by have := h.1; rw [hgy.out] at this; omega))]⟩)
                  (by simp only [Bool.false_eq_true, if_false]; rw [rpF, if_pos ⟨hgy.out, by omega⟩]) (by simp only [Bool.false_eq_true, if_false]; rw [lpF, if_neg (fun h => hip h.2)]))
                rw [HBI.out, ← hbpe] at HB2
                clear hbp hbpe hbie
                go_wp2_with fail
                go_region_held3 (fun w' => w'.cell? ⟨w1.heap.size, p, none⟩ = some (.pointer (some ⟨bp, 0, none⟩)) ∧ w'.cell? ⟨w1.heap.size, i, none⟩ = some (.pointer (some ⟨bi, 0, none⟩)))
                  (first | go_keep | fail) (fail)
                go_wp2
                go_roundw
                case rel => exact ⟨i + 1, by omega, by go_num, by rw [HRT.out], (HAR2.out.setCell (by have := HPG.out; simp only; omega)).kp (Kp.refl _).drew, HB2.out.kp (Kp.refl _).drew, (Kp.set hkp2 (Nat.le_of_lt HPG.out) _).drew⟩
                case measure => simp [intOf]; omega
          · obtain rfl : i = l.length := by omega
            have HAR2 := hide har
            have HBK2 := hide hbk
            clear har
            go_wp2
            have hroot := mtP_root up t l.length hTA.out (by omega) hUP.out
            have hmr := mtP_mr (w := wr) (nt := 72) up (l.map Prod.fst) bl l.length (fun i j hi hj => HIN.out i j (by rw [HBL.out]; exact hi) (by rw [HBL.out]; exact hj)) (fun k hk => HBK2.out k (by rw [HBL.out]; exact hk)) t 0 (-1) hTA.out (by omega) (.inl (by omega)) (fun j hj => by rw [Nat.zero_add, gI, hUP.out]) (fun j h1 h2 => by omega)
            refine bodyPost_ret (v := .tuple #[.pointer (adB bl (rtF up l.length)), .int .i64 0]) (by simp [results, Try.results23, go_sem]) rfl ⟨_, _, by rw [hE.out], by rw [hvt.out, hroot]; exact hmr, fun x hx => ?_, HK1.out.trans hkp2⟩
            obtain ⟨j, _, h2, rfl⟩ := fP_in bl t 0 hTA.out x hx
            have h3 := HGT.out j (by rw [HBL.out]; omega)
            have h4 := HK1.out.size
            omega
  · have hvt : Hid (vineT l = .nil) := hide (by rw [vineT, if_pos h0])
    have hb : ((parOf l).2 != 0) = true := by simpa using h0
    clear h0
    go_enter Try.func23, Try.ntmps23
    go_wp2_with fail
    with_reducible refine (HPA.out _ _ HR.out).mono ?_
    rintro e w1 ⟨v1, rfl, hr1, hb1⟩
    clear hr1
    go_wp2
    exact bodyPost_ret (v := .tuple #[.pointer none, .int .i64 (parOf l).2]) (by simp [results, Try.results23, go_sem]) rfl ⟨none, [], rfl, by rw [hvt.out]; exact MR.nil, by simp, hb1⟩
end Go.Proofs.Ytnpogfodopodoaa
