/-
  hedglaw.ShapeTurns: the walk: it answers true. Conditions: the spots read as pairs (RD).
-/
import Derived.Test.YtcpponjknmkfaaaTurnsL
import Derived.Test.YtcpponjknmkfaaaDLess
import Derived.Test.YtcpponjknmkfaaaSame
namespace Go.Proofs.Ytcpponjknmkfaaa
open Go.ChangeShapes Go.WideShapes Go.ChangeAt Go.RowKit
set_option linter.unusedVariables false
set_option linter.unusedSimpArgs false

def St1Rel (ls : List (List IP)) (w : World) (iv : Value) (wr : World) : Prop := ∃ k : Nat, k ≤ ls.length ∧ iv = .int .i64 (k : Int) ∧ Kp w wr
def St2Rel (m : Nat) (w : World) (iv : Value) (wr : World) : Prop := ∃ k : Nat, k ≤ m ∧ iv = .int .i64 (k : Int) ∧ Kp w wr
def St3Rel (m B : Nat) (w : World) (mv kv : Value) (wr : World) : Prop := ∃ k : Nat, 1 ≤ k ∧ k ≤ m + 1 ∧ kv = .int .i64 (k : Int) ∧ OW wr B 3 eInt mv (CAT.take k) ∧ Kp w wr
def St4Rel (k : Nat) (w : World) (sv iv : Value) (wr : World) : Prop := ∃ i : Nat, i ≤ k ∧ iv = .int .i64 (i : Int) ∧ sv = .int .i64 (catS k i) ∧ Kp w wr
def St5Rel (l : List IP) (key : Int) (w : World) (dv sv fv iv : Value) (wr : World) : Prop := ∃ k : Nat, k ≤ l.length ∧ iv = .int .i64 (k : Int) ∧ dv = .int .i64 (mostL (l.take k)) ∧ sv = .int .i64 (allL (l.take k)) ∧ fv = .bool (foundK l key k) ∧ 0 ≤ allL (l.take k) ∧ allL (l.take k) ≤ 200 * (k : Int) ∧ Kp w wr
set_option maxRecDepth 100000 in
set_option maxHeartbeats 8000000 in
theorem shapeTurns_walk (l : List IP) (key n : Int) (v : Value) (w : World) (hr : RD w ePair v l) (hkey : -9223372036854775808 ≤ key ∧ key ≤ 9223372036854775807) (hn : -9223372036854775808 ≤ n ∧ n ≤ 9223372036854775807) : Calls Try.prog 8 #[v, .int .i64 key, .int .i64 n] w (Ret (.bool true) w) := by
  have H1 := hide (turn_any l key v w hr)
  have H2 := hide (fun W (k : Kp w W) => sum_any l v W (hr.kp k))
  have H3 := hide (fun W => all_any n W hn)
  have HSR := hide (fun W (k : Kp w W) => spotsRight_any l v W (hr.kp k))
  have HTO := hide (fun W (k : Kp w W) (h2 : l.length ≤ 200) => treeOf_any 200 l v 0 W h2 (by omega) (by omega) (by omega) (hr.kp k))
  have HR := hide hr
  have HGB : Hid ((parOf l).2 = 0 → (∀ k (h : k < l.length), 0 ≤ l[k].2 ∧ l[k].2 < 200) ∧ l.length ≤ 200) := hide (fun h => ⟨gv_bound l h, (parOf_len l h).1⟩)
  have HSM : Hid (((parOf l).2 ≠ 0 → sumOf l = (0, 0, (parOf l).2) ∧ turnOf l key = ([], (parOf l).2)) ∧ ((parOf l).2 = 0 → sumOf l = (mostL l, allL l, 0))) :=
    hide ⟨fun h => ⟨by rw [sumOf, if_pos h], by rw [turnOf, if_pos h]⟩, fun h => by rw [sumOf, if_neg (fun e => e h)]⟩
  have HF1 : Hid ((parOf l).2 = 0 → foundK l key l.length = true → turnOf l key = ((turnTT (treeOf l 0).1 key).spots 0, 0)) := hide fun h1 h2 => turn_found h1 h2
  have HF2 : Hid ((parOf l).2 = 0 → foundK l key l.length = false → turnOf l key = ([], 4)) := hide fun h1 h2 => turn_none h1 h2
  obtain ⟨A0, c0, rfl, hc0, hm0⟩ := hr.shape
  obtain ⟨⟨s, e⟩, hT⟩ : ∃ x, x = turnOf l key := ⟨_, rfl⟩
  obtain ⟨⟨mo, al, f⟩, hS⟩ : ∃ x, x = sumOf l := ⟨_, rfl⟩
  obtain ⟨P, hP⟩ : ∃ x, x = (parOf l).2 := ⟨_, rfl⟩
  rw [← hT] at H1 HSM HF1 HF2
  rw [← hS] at H2 HSM
  rw [← hP] at HSR HGB HSM HF1 HF2
  have HTS : Hid ((treeOf l 0).1.size = l.length ∨ P ≠ 0) := hide (by
    by_cases h : P = 0
    · left
      have := (treeOf_spots l (by rw [← hP]; exact h)).1
      rw [← T.spots_len _ 0, this]
    · exact .inr h)
  clear hr hT hS hP hkey
  go_enter Try.func8, Try.ntmps8
  go_wp2_with fail
  with_reducible refine H1.out.mono ?_
  rintro e w1 ⟨v1, rfl, hr1, hb1⟩
  have HR1 := hide hr1
  have HK1 := hide (Kp.of hb1)
  obtain ⟨A1, c1, rfl, _, _⟩ := hr1.shape
  clear hr1 hb1
  go_wp2_with fail
  with_reducible refine (H2.out _ HK1.out).mono ?_
  rintro e w2 ⟨rfl, hb2⟩
  have HK2 := hide (HK1.out.trans (Kp.of hb2))
  have HR2 := hide (HR1.out.kp (Kp.of hb2))
  clear hb2
  go_wp2_with fail
  with_reducible refine (H3.out _).mono ?_
  rintro e w3 ⟨k3, ⟨h0, h7, v3, ls, rfl, hls, hall⟩ | ⟨hbad, rfl⟩⟩
  · obtain ⟨m, hm⟩ : ∃ m : Nat, n = (m : Int) := ⟨n.toNat, by omega⟩
    subst hm
    rw [Int.toNat_natCast] at hall
    have hm7 : m ≤ 7 := by omega
    have HK3 := hide (HK2.out.trans k3)
    have HR3 := hide (HR2.out.kp k3)
    have HLS := hide hls
    have HALL := hide hall
    have HRT := hide (fun t (ht : t ∈ ls) => allOf_mem hm7 hall ht)
    have HLN := hide ((congrArg (fun x : Nat => (x : Int)) (allOf_len hall)).trans (cat_cat m hm7))
    have hln : ls.length ≤ 1000 := by rw [allOf_len hall]; exact catF_le m hm7 m hm7
    obtain ⟨A3, c3, rfl, hc3, hm3⟩ := hls.shape
    have HBW := hide (fun W => between_to (m : Int) 0 7 true W (by rcases btw_cases (m : Int) 0 7 with ⟨h, _⟩ | ⟨h, _⟩ <;> omega))
    clear k3 hls hall h0 h7 hn
    go_wp2_with fail
    with_reducible refine (HBW.out _).mono ?_
    rintro e w4 ⟨rfl, rfl⟩
    go_wp2_with fail
    go_loopw [61] (St1Rel ls w3) (fun k _ => ls.length - (intOf k).toNat)
    case atStart => exact ⟨0, by omega, rfl, Kp.refl _⟩
    case round =>
      obtain ⟨k, hk, rfl, hkp⟩ := hrel
      have HKP := hide hkp
      by_cases hlt : k < ls.length
      · have d1 : decide (k < ls.length) = true := by simp [hlt]
        obtain ⟨b, o, x, rfl, _, cx, hx⟩ := (HLS.out.kp hkp).at_ (k := k) hlt
        obtain ⟨r1, r2, r3⟩ := HRT.out ls[k] (List.getElem_mem hlt)
        have hsr := spotsRight_any ls[k] x wr hx
        rw [r1] at hsr
        have HSRT := hide hsr
        have HX := hide hx
        have HKY := hide r3
        have HR22 := hide r2
        obtain ⟨A5, c5, rfl, hc5, hm5⟩ := hx.shape
        rw [r2] at HSRT HX cx hc5
        obtain ⟨k1, hk1⟩ : ∃ k1 : Nat, k1 = k + 1 := ⟨_, rfl⟩
        have s6 : IntKind.i64.wrap ((k : Int) + 1) = (k1 : Int) := by rw [IntWalk.i64_in _ (by omega)]; omega
        have HK1' := hide hk1
        have d2 : ((m : Int) != (m : Int)) = false := by simp
        by_cases hk0 : k = 0
        · subst hk0
          rw [Nat.add_zero] at cx
          clear hx r1 r2 r3 hsr hkp hk1
          go_wp2_with fail
          with_reducible refine HSRT.out.mono ?_
          rintro e w5 ⟨rfl, hb5⟩
          have HK5 := hide (HKP.out.trans (Kp.of hb5))
          have HX5 := hide (HX.out.kp (Kp.of hb5))
          clear hb5
          go_wp2_with fail
          go_loopw [91] (St2Rel m w5) (fun i _ => m - (intOf i).toNat)
          case atStart => exact ⟨0, by omega, rfl, Kp.refl _⟩
          case round =>
            obtain ⟨i, hi, rfl, hkp⟩ := hrel
            have HKI := hide hkp
            by_cases hlt2 : i < m
            · have d4 : decide (i < m) = true := by simp [hlt2]
              have hil : i < (ls[0]).length := by rw [HR22.out]; exact hlt2
              obtain ⟨b9, o9, rfl, _, z0, z1⟩ := (HX5.out.kp hkp).pair hil
              rw [← gk_eq _ i hil, HKY.out i hil] at z0
              obtain ⟨D, hD⟩ : ∃ D, D = ((ls[0])[i]).2 := ⟨_, rfl⟩
              rw [← hD] at z1
              have d5 : ((i : Int) != (i : Int)) = false := by simp
              obtain ⟨i1, hi1⟩ : ∃ i1 : Nat, i1 = i + 1 := ⟨_, rfl⟩
              have s8 : IntKind.i64.wrap ((i : Int) + 1) = (i1 : Int) := by rw [IntWalk.i64_in _ (by omega)]; omega
              have HI1 := hide hi1
              clear hkp hD hi1
              go_wp2
              go_roundw
              all_goals have hi1 := HI1.out
              case rel => exact ⟨i1, by omega, rfl, HKI.out.alloc⟩
              case measure => first | (simp [intOf]; done) | (simp [intOf]; omega)
            · have d4 : decide (i < m) = false := by simp [hlt2]
              clear hkp
              go_wp2
              go_roundw
              all_goals have hk1 := HK1'.out
              case rel => exact ⟨k1, by omega, (by first | rfl | (rw [hk1]; rfl)), HK5.out.trans HKI.out⟩
              case measure => first | (simp [intOf]; done) | (simp [intOf]; omega)
        · obtain ⟨q, hq⟩ : ∃ q, k = q + 1 := ⟨k - 1, by omega⟩
          have hql : q < ls.length := by omega
          obtain ⟨_, _, y, e1, _, cy, hy⟩ := (HLS.out.kp hkp).at_ (k := q) hql
          injection e1 with e1
          injection e1 with e2 e3
          subst e2 e3
          have hne : decide (cmpD ls[q] ls[k] < 0) = true := by
            have h9 := List.pairwise_iff_getElem.1 HALL.out.2 q k hql hlt (by omega)
            simp [h9]
          have HDL := hide (fun W (kk : Kp wr W) => depthsLess_any ls[q] ls[k] y _ W (hy.kp kk) (hx.kp kk))
          rw [hne, r2] at HDL
          have s7 : IntKind.i64.wrap ((k : Int) - 1) = (q : Int) := by rw [IntWalk.i64_in _ (by omega)]; omega
          have d3 : decide (0 < k) = true := by simp; omega
          have HCY := hide cy
          clear hx r1 r2 r3 hsr hkp hk1 hq hy hne
          go_wp2_with fail
          with_reducible refine HSRT.out.mono ?_
          rintro e w5 ⟨rfl, hb5⟩
          have kk5 := Kp.of hb5
          have cy5 := kk5.cell HCY.out
          have HK5' := hide (HKP.out.trans kk5)
          have HX5' := hide (HX.out.kp kk5)
          have HDL5 := hide (HDL.out _ kk5)
          clear hb5 kk5
          go_wp2_with fail
          with_reducible refine HDL5.out.mono ?_
          rintro e w6 ⟨rfl, hb6⟩
          have HK5 := hide (HK5'.out.trans (Kp.of hb6))
          have HX5 := hide (HX5'.out.kp (Kp.of hb6))
          clear hb6 cy5
          go_wp2_with fail
          go_loopw [91] (St2Rel m w6) (fun i _ => m - (intOf i).toNat)
          case atStart => exact ⟨0, by omega, rfl, Kp.refl _⟩
          case round =>
            obtain ⟨i, hi, rfl, hkp⟩ := hrel
            have HKI := hide hkp
            by_cases hlt2 : i < m
            · have d4 : decide (i < m) = true := by simp [hlt2]
              have hil : i < (ls[k]).length := by rw [HR22.out]; exact hlt2
              obtain ⟨b9, o9, rfl, _, z0, z1⟩ := (HX5.out.kp hkp).pair hil
              rw [← gk_eq _ i hil, HKY.out i hil] at z0
              obtain ⟨D, hD⟩ : ∃ D, D = ((ls[k])[i]).2 := ⟨_, rfl⟩
              rw [← hD] at z1
              have d5 : ((i : Int) != (i : Int)) = false := by simp
              obtain ⟨i1, hi1⟩ : ∃ i1 : Nat, i1 = i + 1 := ⟨_, rfl⟩
              have s8 : IntKind.i64.wrap ((i : Int) + 1) = (i1 : Int) := by rw [IntWalk.i64_in _ (by omega)]; omega
              have HI1 := hide hi1
              clear hkp hD hi1
              go_wp2
              go_roundw
              all_goals have hi1 := HI1.out
              case rel => exact ⟨i1, by omega, rfl, HKI.out.alloc⟩
              case measure => first | (simp [intOf]; done) | (simp [intOf]; omega)
            · have d4 : decide (i < m) = false := by simp [hlt2]
              clear hkp
              go_wp2
              go_roundw
              all_goals have hk1 := HK1'.out
              case rel => exact ⟨k1, by omega, (by first | rfl | (rw [hk1]; rfl)), HK5.out.trans HKI.out⟩
              case measure => first | (simp [intOf]; done) | (simp [intOf]; omega)
      · have d1 : decide (k < ls.length) = false := by simp [hlt]
        clear hkp
        go_wp2_with fail
        obtain ⟨wm, rfl⟩ : ∃ x, x = wr := ⟨_, rfl⟩
        obtain ⟨W0, hW0⟩ : ∃ x, x = wm.alloc (.cells #[.int .i64 1] 3) := ⟨_, rfl⟩
        rw [← hW0]
        have HOW0 : Hid (OW W0 wm.heap.size 3 eInt (.slice (some ⟨wm.heap.size, 0, none⟩) 1 1) [1]) := hide (by rw [hW0]; exact ⟨rfl, .inr ⟨wm.heap.size, 1, #[.int .i64 1], rfl, Nat.le_refl _, heap_alloc_new wm _, Nat.le_refl _, by unfold maxLen; omega, rfl, by simp [eInt]⟩⟩)
        have HKW0 : Hid (Kp wm W0) := hide (by rw [hW0]; exact (Kp.refl _).alloc)
        clear hW0
        go_loopw [18, 19] (St3Rel m wm.heap.size wm) (fun _ k _ => m + 1 - (intOf k).toNat)
        case atStart => exact ⟨1, by omega, by omega, rfl, HOW0.out, HKW0.out⟩
        case round =>
          obtain ⟨j, hj1, hj2, rfl, hv, hkp⟩ := hrel
          have HV := hide hv
          have HKJ := hide hkp
          have hcl : (CAT.take j).length = j := by rw [List.length_take, CAT_len]; omega
          obtain ⟨A6, c6, rfl, hc6, hm6⟩ := hv.rd.shape
          by_cases hjm : j ≤ m
          · have d2 : decide (j ≤ m) = true := by simp [hjm]
            have HALLC := hide (catS_all j (by omega) hj1)
            have HSTEP := hide (CAT_step j (by omega))
            obtain ⟨L, hL⟩ : ∃ L, L = CAT.take j := ⟨_, rfl⟩
            have HLA : Hid (∀ i (h : i < L.length), L[i] = CAT.getD i 0) := hide (by subst hL; exact fun i h => CAT_at (by omega) h)
            rw [← hL] at HV hcl hc6 HSTEP ⊢
            have HCL := hide hcl
            obtain ⟨wj, rfl⟩ : ∃ x, x = wr := ⟨_, rfl⟩
            obtain ⟨j1, hjj⟩ : ∃ j1 : Nat, j1 = j + 1 := ⟨_, rfl⟩
            have s6 : IntKind.i64.wrap ((j : Int) + 1) = (j1 : Int) := by rw [IntWalk.i64_in _ (by omega)]; omega
            have HJ1 := hide hjj
            have hLl8 : L.length ≤ 8 := by rw [hcl]; omega
            clear hv hkp hcl hL hjj
            go_wp2_with fail
            go_loopw [20, 109] (St4Rel j wj) (fun _ i _ => j - (intOf i).toNat)
            case atStart => exact ⟨0, by omega, rfl, rfl, Kp.refl _⟩
            case round =>
              obtain ⟨i, hi, rfl, rfl, hkp⟩ := hrel
              have HKI := hide hkp
              by_cases hij : i < j
              · have d3 : decide (i < j) = true := by simp [hij]
                obtain ⟨q, hq⟩ : ∃ q : Nat, q = j - 1 - i := ⟨_, rfl⟩
                have hiL : i < L.length := by rw [HCL.out]; exact hij
                have hqL : q < L.length := by rw [HCL.out]; omega
                obtain ⟨b9, o9, rfl, _, z0⟩ := (HV.out.rd.kp hkp).int hiL
                obtain ⟨_, _, e1, _, z1⟩ := (HV.out.rd.kp hkp).int hqL
                injection e1 with e1
                injection e1 with e2 e3
                subst e2 e3
                rw [HLA.out i hiL] at z0
                rw [HLA.out q hqL] at z1
                have hst : catS j (i + 1) = catS j i + CAT.getD i 0 * CAT.getD q 0 := by rw [catS, hq]
                have hb1 := catS_le j (by omega) i (by omega)
                have hb2 := cat_mul i (by omega) q (by omega)
                obtain ⟨X, hX⟩ : ∃ x, x = CAT.getD i 0 := ⟨_, rfl⟩
                obtain ⟨Y, hY⟩ : ∃ x, x = CAT.getD q 0 := ⟨_, rfl⟩
                obtain ⟨S, hS⟩ : ∃ x, x = catS j i := ⟨_, rfl⟩
                rw [← hX] at z0 hst hb2
                rw [← hY] at z1 hst hb2
                rw [← hS] at hst hb1 ⊢
                obtain ⟨Z, hZ⟩ : ∃ x, x = X * Y := ⟨_, rfl⟩
                rw [← hZ] at hst hb2
                obtain ⟨jm, hjm2⟩ : ∃ x : Nat, x = j - 1 := ⟨_, rfl⟩
                have s1 : IntKind.i64.wrap ((j : Int) - 1) = (jm : Int) := by rw [IntWalk.i64_in _ (by omega)]; omega
                have s2 : IntKind.i64.wrap ((jm : Int) - (i : Int)) = (q : Int) := by rw [IntWalk.i64_in _ (by omega)]; omega
                have s3 : IntKind.i64.wrap (X * Y) = Z := by rw [IntWalk.i64_in _ (by rw [← hZ]; omega)]; exact hZ.symm
                have s4 : IntKind.i64.wrap (S + Z) = S + Z := IntWalk.i64_in _ (by omega)
                obtain ⟨i1, hi1⟩ : ∃ i1 : Nat, i1 = i + 1 := ⟨_, rfl⟩
                have s5 : IntKind.i64.wrap ((i : Int) + 1) = (i1 : Int) := by rw [IntWalk.i64_in _ (by omega)]; omega
                rw [← hi1] at hst
                have HST := hide hst
                have HI1 := hide hi1
                clear hkp hq hst hb1 hb2 hX hY hS hZ hjm2 hi1
                go_wp2_with fail
                go_quiet (fail)
                go_wp2
                go_roundw
                all_goals have hi1 := HI1.out
                case rel => exact ⟨i1, by omega, rfl, by rw [HST.out], HKI.out.drewN⟩
                case measure => first | (simp [intOf]; done) | (simp [intOf]; omega)
              · obtain rfl : i = j := by omega
                have d3 : decide (i < i) = false := by simp
                rw [HALLC.out]
                obtain ⟨X, hX⟩ : ∃ x, x = CAT.getD i 0 := ⟨_, rfl⟩
                rw [← hX] at HSTEP ⊢
                have HSZ : Hid (wm.heap.size ≤ wr.heap.size) := hide (Nat.le_trans HKJ.out.size hkp.size)
                have HM1 : Hid ((L.length + [X].length) * 8 ≤ 140737488355328) := hide (by simp; omega)
                have HM2 : Hid (L.length + [X].length ≤ maxLen) := hide (by simp [maxLen]; omega)
                clear hkp hX
                go_wp2_with (at_builtin; (with_reducible refine list_app (B := wm.heap.size) (l := L) (m := [X]) row_int (.slice A6 L.length c6) ?_ (.tmp 127) (.tmp 129) ?_ ?_ ?_ ?_ HM1.out HM2.out ?_ ?_); (with_reducible rfl); (with_reducible rfl); rfl; (exact (HV.out.kp HKI.out).alloc _); (show RD _ _ (.slice (some ⟨_, 0, none⟩) 1 1) _; exact RD.new1e _ (by simp) rfl); (have := HSZ.out; simp; omega); intro v4 w5 ho4 hg4 hat4)
                go_roundw
                all_goals have hj1 := HJ1.out
                case rel => exact ⟨j1, by omega, by omega, rfl, by rw [hj1, ← HSTEP.out]; exact ho4, Kp.app hg4 ((HKJ.out.trans HKI.out).alloc) HV.out.hi⟩
                case measure => first | (simp [intOf]; done) | (simp [intOf]; omega)
          · have hjm2 : j = m + 1 := by omega
            have d2 : decide (j ≤ m) = false := by simp [hjm]
            have hmL : m < (CAT.take j).length := by rw [hcl]; omega
            obtain ⟨b9, o9, rfl, _, z0⟩ := hv.rd.int hmL
            rw [CAT_at (by omega) hmL, ← HLN.out] at z0
            have d3 : ((ls.length : Int) != (ls.length : Int)) = false := by simp
            have hmL2 : (m : Int) < ((CAT.take j).length : Int) := by omega
            obtain ⟨N, hN⟩ : ∃ N, N = (CAT.take j).length := ⟨_, rfl⟩
            rw [← hN] at hc6 hmL2 hmL ⊢
            have HKZ := hide (HK3.out.trans (HKP.out.trans HKJ.out))
            have HRZ := hide (HR3.out.kp (HKP.out.trans HKJ.out))
            clear hv hkp hcl hN hjm2
            go_wp2_with fail
            with_reducible refine (HSR.out _ HKZ.out).mono ?_
            rintro e wa ⟨rfl, hba⟩
            have HKA := hide ((HKZ.out).trans (Kp.of hba))
            have HRA := hide ((HRZ.out).kp (Kp.of hba))
            clear hba
            by_cases p : P = 0
            · obtain ⟨hgb, hl2⟩ := HGB.out p
              have hsm := HSM.out.2 p
              simp only [Prod.mk.injEq] at hsm
              obtain ⟨rfl, rfl, rfl⟩ := hsm
              have HG1 := hide (HF1.out p)
              have HG2 := hide (HF2.out p)
              have HGV := hide hgb
              have HTZ : Hid ((turnTT (treeOf l 0).1 key).size ≤ 200) := hide (by
                rw [turnTT_size]
                rcases HTS.out with h | h
                · omega
                · exact absurd p h)
              have d1 : (P != 0) = false := by simp [p]
              clear p hgb HSM HGB HF1 HF2 HTS
              go_wp2_with fail
              go_loopw [23, 24, 25, 165] (St5Rel l key wa) (fun _ _ _ k _ => l.length - (intOf k).toNat)
              case atStart => exact ⟨0, by omega, rfl, rfl, rfl, rfl, by simp [allL], by simp [allL], Kp.refl _⟩
              case round =>
                obtain ⟨k, hk, rfl, rfl, rfl, rfl, ha0, ha1, hkp⟩ := hrel
                have HKP := hide hkp
                by_cases hlt : k < l.length
                · have d2 : decide (k < l.length) = true := by simp [hlt]
                  obtain ⟨b, o, rfl, _, x0, x1⟩ := (HR.out.kp (HKA.out.trans hkp)).pair hlt
                  obtain ⟨g1, g2⟩ := HGV.out k hlt
                  have hm1 := mostL_snoc l k hlt
                  have hs1 := allL_snoc l k hlt
                  have hf1 : foundK l key (k + 1) = (foundK l key k || (gk l k == key && decide (0 < gv l k))) := rfl
                  rw [gk_eq l k hlt, gv_eq l k hlt] at hf1
                  obtain ⟨M, hM⟩ : ∃ M, M = mostL (l.take k) := ⟨_, rfl⟩
                  obtain ⟨S, hS⟩ : ∃ S, S = allL (l.take k) := ⟨_, rfl⟩
                  obtain ⟨F, hF⟩ : ∃ F, F = foundK l key k := ⟨_, rfl⟩
                  rw [← hM] at hm1 ⊢
                  rw [← hS] at hs1 ha0 ha1 ⊢
                  rw [← hF] at hf1 ⊢
                  obtain ⟨d, hd⟩ : ∃ d, d = (l[k]).2 := ⟨_, rfl⟩
                  obtain ⟨K, hK⟩ : ∃ K, K = (l[k]).1 := ⟨_, rfl⟩
                  rw [← hd] at x1 g1 g2 hm1 hs1 hf1
                  rw [← hK] at x0 hf1
                  have hwr : IntKind.i64.wrap (S + d) = S + d := IntWalk.i64_in _ (by omega)
                  obtain ⟨k1, hk1⟩ : ∃ k1 : Nat, k1 = k + 1 := ⟨_, rfl⟩
                  have s1 : IntKind.i64.wrap ((k : Int) + 1) = (k1 : Int) := by rw [IntWalk.i64_in _ (by omega)]; omega
                  rw [← hk1] at hm1 hs1 hf1
                  have HM := hide hm1
                  have HS := hide hs1
                  have HK1' := hide hk1
                  clear hm1 hs1 hM hS hF hd hK hk1 hkp
                  cases hFv : F with
                  | true =>
                    have HF : Hid (foundK l key k1 = true) := hide (by rw [hf1, hFv]; rfl)
                    clear hf1 hFv
                    go_wp2_with fail
                    go_quiet (fail)
                    go_wp2
                    go_roundw
                    all_goals have hk1 := HK1'.out
                    case rel => exact ⟨k1, by omega, rfl, by rw [HM.out]; first | done | (congr 1; rw [Int.max_def]; split <;> split <;> omega), by rw [HS.out], by rw [HF.out], by rw [HS.out]; omega, by rw [HS.out]; omega, HKP.out.alloc.drewN⟩
                    case measure => first | (simp [intOf]; done) | (simp [intOf]; omega)
                  | false =>
                    by_cases hKk : K = key
                    · have d3 : (K == key) = true := by simp [hKk]
                      have HF : Hid (foundK l key k1 = decide (0 < d)) := hide (by rw [hf1, hFv, d3]; simp)
                      clear hf1 hFv hKk
                      go_wp2_with fail
                      go_quiet (fail)
                      go_wp2
                      go_roundw
                      all_goals have hk1 := HK1'.out
                      case rel => exact ⟨k1, by omega, rfl, by rw [HM.out]; first | done | (congr 1; rw [Int.max_def]; split <;> split <;> omega), by rw [HS.out], by rw [HF.out], by rw [HS.out]; omega, by rw [HS.out]; omega, HKP.out.alloc.drewN⟩
                      case measure => first | (simp [intOf]; done) | (simp [intOf]; omega)
                    · have d3 : (K == key) = false := by simp [hKk]
                      have HF : Hid (foundK l key k1 = false) := hide (by rw [hf1, hFv, d3]; simp)
                      clear hf1 hFv hKk
                      go_wp2_with fail
                      go_quiet (fail)
                      go_wp2
                      go_roundw
                      all_goals have hk1 := HK1'.out
                      case rel => exact ⟨k1, by omega, rfl, by rw [HM.out]; first | done | (congr 1; rw [Int.max_def]; split <;> split <;> omega), by rw [HS.out], by rw [HF.out], by rw [HS.out]; omega, by rw [HS.out]; omega, HKP.out.alloc.drewN⟩
                      case measure => first | (simp [intOf]; done) | (simp [intOf]; omega)
                · obtain rfl : k = l.length := by omega
                  have d2 : decide (l.length < l.length) = false := by simp
                  rw [List.take_length]
                  obtain ⟨M, hM⟩ : ∃ M, M = mostL l := ⟨_, rfl⟩
                  obtain ⟨S, hS⟩ : ∃ S, S = allL l := ⟨_, rfl⟩
                  rw [← hM, ← hS]
                  have d3 : (M != M) = false := by simp
                  have d4 : (S != S) = false := by simp
                  cases hF : foundK l key l.length with
                  | true =>
                    have hsp := HG1.out hF
                    simp only [Prod.mk.injEq] at hsp
                    obtain ⟨hs1, rfl⟩ := hsp
                    have HSP := hide hs1
                    have HKW := hide (HKA.out.trans HKP.out)
                    have HRW := hide (HRA.out.kp HKP.out)
                    have hTO := HTO.out wr HKW.out hl2
                    obtain ⟨⟨T0, tb⟩, hT0⟩ : ∃ x, x = treeOf l 0 := ⟨_, rfl⟩
                    rw [← hT0] at hTO HSP HTZ
                    have HTO2 := hide hTO
                    clear hM hS hF hs1 hkp ha0 ha1 hTO hT0 HG1 HG2
                    go_wp2_with fail
                    refine HTO2.out.mono ?_
                    rintro e wb ⟨p1, rfl, ht1, hb1⟩
                    have HKB := hide (HKW.out.trans (Kp.of hb1))
                    have HRB := hide (HRW.out.kp (Kp.of hb1))
                    have HT1 := hide ht1
                    clear ht1 hb1
                    go_wp2_with fail
                    with_reducible refine (turned_any T0 p1 key _ HT1.out).mono ?_
                    rintro e wc ⟨p2, rfl, ht2, hb2⟩
                    have HKC := hide (HKB.out.trans (Kp.of hb2))
                    have HRC := hide (HRB.out.kp (Kp.of hb2))
                    have HT2 := hide ht2
                    clear ht2 hb2
                    go_wp2_with fail
                    with_reducible refine (spots_any (turnTT T0 key) p2 0 _ HT2.out (by omega) (by have := HTZ.out; omega)).mono ?_
                    rintro e wd ⟨v8, rfl, ho8, hb8⟩
                    have HKD := hide (HKC.out.trans (Kp.of hb8))
                    have HRD := hide (HRC.out.kp (Kp.of hb8))
                    have HR8 := hide ho8.rd
                    clear ho8 hb8
                    go_wp2_with fail
                    refine (sameSpots_to s ((turnTT T0 key).spots 0) true _ _ _ HRD.out HR8.out (by rw [HSP.out]; simp)).mono ?_
                    rintro e we ⟨rfl, hb9⟩
                    have HKE := hide (HKD.out.trans (Kp.of hb9))
                    clear hb9
                    go_wp2
                    go_ret
                    exact ⟨rfl, HKE.out.bel⟩
                  | false =>
                    have hsp := HG2.out hF
                    simp only [Prod.mk.injEq] at hsp
                    obtain ⟨rfl, rfl⟩ := hsp
                    clear hM hS hF hkp ha0 ha1 HG1 HG2
                    go_wp2
                    go_ret
                    exact ⟨rfl, (HKA.out.trans HKP.out).bel⟩
            · have hsm := HSM.out.1 p
              simp only [Prod.mk.injEq] at hsm
              obtain ⟨⟨rfl, rfl, rfl⟩, rfl, rfl⟩ := hsm
              have d1 : (e != 0) = true := by simpa using p
              have d2 : (e == e) = true := by simp
              clear p HSM HGB HF1 HF2 HTS
              go_wp2
              go_ret
              exact ⟨rfl, HKA.out.bel⟩
  · have HK3 := hide (HK2.out.trans k3)
    have HR3 := hide (HR2.out.kp k3)
    have HBW := hide (fun W => between_to n 0 7 false W (by rcases btw_cases n 0 7 with ⟨h, _⟩ | ⟨h, _⟩ <;> omega))
    clear k3 hbad hn
    go_wp2_with fail
    with_reducible refine (HBW.out _).mono ?_
    rintro e w4 ⟨rfl, rfl⟩
    go_wp2_with fail
    with_reducible refine (HSR.out _ HK3.out).mono ?_
    rintro e wa ⟨rfl, hba⟩
    have HKA := hide ((HK3.out).trans (Kp.of hba))
    have HRA := hide ((HR3.out).kp (Kp.of hba))
    clear hba
    by_cases p : P = 0
    · obtain ⟨hgb, hl2⟩ := HGB.out p
      have hsm := HSM.out.2 p
      simp only [Prod.mk.injEq] at hsm
      obtain ⟨rfl, rfl, rfl⟩ := hsm
      have HG1 := hide (HF1.out p)
      have HG2 := hide (HF2.out p)
      have HGV := hide hgb
      have HTZ : Hid ((turnTT (treeOf l 0).1 key).size ≤ 200) := hide (by
        rw [turnTT_size]
        rcases HTS.out with h | h
        · omega
        · exact absurd p h)
      have d1 : (P != 0) = false := by simp [p]
      clear p hgb HSM HGB HF1 HF2 HTS
      go_wp2_with fail
      go_loopw [23, 24, 25, 165] (St5Rel l key wa) (fun _ _ _ k _ => l.length - (intOf k).toNat)
      case atStart => exact ⟨0, by omega, rfl, rfl, rfl, rfl, by simp [allL], by simp [allL], Kp.refl _⟩
      case round =>
        obtain ⟨k, hk, rfl, rfl, rfl, rfl, ha0, ha1, hkp⟩ := hrel
        have HKP := hide hkp
        by_cases hlt : k < l.length
        · have d2 : decide (k < l.length) = true := by simp [hlt]
          obtain ⟨b, o, rfl, _, x0, x1⟩ := (HR.out.kp (HKA.out.trans hkp)).pair hlt
          obtain ⟨g1, g2⟩ := HGV.out k hlt
          have hm1 := mostL_snoc l k hlt
          have hs1 := allL_snoc l k hlt
          have hf1 : foundK l key (k + 1) = (foundK l key k || (gk l k == key && decide (0 < gv l k))) := rfl
          rw [gk_eq l k hlt, gv_eq l k hlt] at hf1
          obtain ⟨M, hM⟩ : ∃ M, M = mostL (l.take k) := ⟨_, rfl⟩
          obtain ⟨S, hS⟩ : ∃ S, S = allL (l.take k) := ⟨_, rfl⟩
          obtain ⟨F, hF⟩ : ∃ F, F = foundK l key k := ⟨_, rfl⟩
          rw [← hM] at hm1 ⊢
          rw [← hS] at hs1 ha0 ha1 ⊢
          rw [← hF] at hf1 ⊢
          obtain ⟨d, hd⟩ : ∃ d, d = (l[k]).2 := ⟨_, rfl⟩
          obtain ⟨K, hK⟩ : ∃ K, K = (l[k]).1 := ⟨_, rfl⟩
          rw [← hd] at x1 g1 g2 hm1 hs1 hf1
          rw [← hK] at x0 hf1
          have hwr : IntKind.i64.wrap (S + d) = S + d := IntWalk.i64_in _ (by omega)
          obtain ⟨k1, hk1⟩ : ∃ k1 : Nat, k1 = k + 1 := ⟨_, rfl⟩
          have s1 : IntKind.i64.wrap ((k : Int) + 1) = (k1 : Int) := by rw [IntWalk.i64_in _ (by omega)]; omega
          rw [← hk1] at hm1 hs1 hf1
          have HM := hide hm1
          have HS := hide hs1
          have HK1' := hide hk1
          clear hm1 hs1 hM hS hF hd hK hk1 hkp
          cases hFv : F with
          | true =>
            have HF : Hid (foundK l key k1 = true) := hide (by rw [hf1, hFv]; rfl)
            clear hf1 hFv
            go_wp2_with fail
            go_quiet (fail)
            go_wp2
            go_roundw
            all_goals have hk1 := HK1'.out
            case rel => exact ⟨k1, by omega, rfl, by rw [HM.out]; first | done | (congr 1; rw [Int.max_def]; split <;> split <;> omega), by rw [HS.out], by rw [HF.out], by rw [HS.out]; omega, by rw [HS.out]; omega, HKP.out.alloc.drewN⟩
            case measure => first | (simp [intOf]; done) | (simp [intOf]; omega)
          | false =>
            by_cases hKk : K = key
            · have d3 : (K == key) = true := by simp [hKk]
              have HF : Hid (foundK l key k1 = decide (0 < d)) := hide (by rw [hf1, hFv, d3]; simp)
              clear hf1 hFv hKk
              go_wp2_with fail
              go_quiet (fail)
              go_wp2
              go_roundw
              all_goals have hk1 := HK1'.out
              case rel => exact ⟨k1, by omega, rfl, by rw [HM.out]; first | done | (congr 1; rw [Int.max_def]; split <;> split <;> omega), by rw [HS.out], by rw [HF.out], by rw [HS.out]; omega, by rw [HS.out]; omega, HKP.out.alloc.drewN⟩
              case measure => first | (simp [intOf]; done) | (simp [intOf]; omega)
            · have d3 : (K == key) = false := by simp [hKk]
              have HF : Hid (foundK l key k1 = false) := hide (by rw [hf1, hFv, d3]; simp)
              clear hf1 hFv hKk
              go_wp2_with fail
              go_quiet (fail)
              go_wp2
              go_roundw
              all_goals have hk1 := HK1'.out
              case rel => exact ⟨k1, by omega, rfl, by rw [HM.out]; first | done | (congr 1; rw [Int.max_def]; split <;> split <;> omega), by rw [HS.out], by rw [HF.out], by rw [HS.out]; omega, by rw [HS.out]; omega, HKP.out.alloc.drewN⟩
              case measure => first | (simp [intOf]; done) | (simp [intOf]; omega)
        · obtain rfl : k = l.length := by omega
          have d2 : decide (l.length < l.length) = false := by simp
          rw [List.take_length]
          obtain ⟨M, hM⟩ : ∃ M, M = mostL l := ⟨_, rfl⟩
          obtain ⟨S, hS⟩ : ∃ S, S = allL l := ⟨_, rfl⟩
          rw [← hM, ← hS]
          have d3 : (M != M) = false := by simp
          have d4 : (S != S) = false := by simp
          cases hF : foundK l key l.length with
          | true =>
            have hsp := HG1.out hF
            simp only [Prod.mk.injEq] at hsp
            obtain ⟨hs1, rfl⟩ := hsp
            have HSP := hide hs1
            have HKW := hide (HKA.out.trans HKP.out)
            have HRW := hide (HRA.out.kp HKP.out)
            have hTO := HTO.out wr HKW.out hl2
            obtain ⟨⟨T0, tb⟩, hT0⟩ : ∃ x, x = treeOf l 0 := ⟨_, rfl⟩
            rw [← hT0] at hTO HSP HTZ
            have HTO2 := hide hTO
            clear hM hS hF hs1 hkp ha0 ha1 hTO hT0 HG1 HG2
            go_wp2_with fail
            refine HTO2.out.mono ?_
            rintro e wb ⟨p1, rfl, ht1, hb1⟩
            have HKB := hide (HKW.out.trans (Kp.of hb1))
            have HRB := hide (HRW.out.kp (Kp.of hb1))
            have HT1 := hide ht1
            clear ht1 hb1
            go_wp2_with fail
            with_reducible refine (turned_any T0 p1 key _ HT1.out).mono ?_
            rintro e wc ⟨p2, rfl, ht2, hb2⟩
            have HKC := hide (HKB.out.trans (Kp.of hb2))
            have HRC := hide (HRB.out.kp (Kp.of hb2))
            have HT2 := hide ht2
            clear ht2 hb2
            go_wp2_with fail
            with_reducible refine (spots_any (turnTT T0 key) p2 0 _ HT2.out (by omega) (by have := HTZ.out; omega)).mono ?_
            rintro e wd ⟨v8, rfl, ho8, hb8⟩
            have HKD := hide (HKC.out.trans (Kp.of hb8))
            have HRD := hide (HRC.out.kp (Kp.of hb8))
            have HR8 := hide ho8.rd
            clear ho8 hb8
            go_wp2_with fail
            refine (sameSpots_to s ((turnTT T0 key).spots 0) true _ _ _ HRD.out HR8.out (by rw [HSP.out]; simp)).mono ?_
            rintro e we ⟨rfl, hb9⟩
            have HKE := hide (HKD.out.trans (Kp.of hb9))
            clear hb9
            go_wp2
            go_ret
            exact ⟨rfl, HKE.out.bel⟩
          | false =>
            have hsp := HG2.out hF
            simp only [Prod.mk.injEq] at hsp
            obtain ⟨rfl, rfl⟩ := hsp
            clear hM hS hF hkp ha0 ha1 HG1 HG2
            go_wp2
            go_ret
            exact ⟨rfl, (HKA.out.trans HKP.out).bel⟩
    · have hsm := HSM.out.1 p
      simp only [Prod.mk.injEq] at hsm
      obtain ⟨⟨rfl, rfl, rfl⟩, rfl, rfl⟩ := hsm
      have d1 : (e != 0) = true := by simpa using p
      have d2 : (e == e) = true := by simp
      clear p HSM HGB HF1 HF2 HTS
      go_wp2
      go_ret
      exact ⟨rfl, HKA.out.bel⟩
end Go.Proofs.Ytcpponjknmkfaaa
