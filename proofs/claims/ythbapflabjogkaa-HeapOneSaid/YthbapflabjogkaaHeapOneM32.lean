/-
  slices.symMergeCmpFunc at spots, where the second part is of one element. Conditions: the row is the call's own (OW).
-/
import Derived.Test.YthbapflabjogkaaHeapOneM31

namespace Go.Proofs.Ythbapflabjogkaa
open Go.ChangeShapes Go.WideShapes Go.ChangeAt Go.RowKit
set_option linter.unusedVariables false
set_option linter.unusedSimpArgs false

def SyB (Bk : Nat) (e : TypeId) (g N c a k0 : Nat) (P U Q : List IP) (y : IP) (w : World) (kv : Value) (wr : World) : Prop :=
  ∃ t : Nat, kv = .int .i64 ((a + t : Nat) : Int) ∧ k0 ≤ t ∧ t ≤ U.length ∧ OW wr Bk e ePair (.slice (some ⟨g, 0, none⟩) N c) (P ++ (U.take t ++ y :: U.drop t) ++ Q) ∧ Kf (fun k => k = g) w wr
set_option maxRecDepth 100000 in
set_option maxHeartbeats 16000000 in
theorem symB_any (P U Q : List IP) (y : IP) (a m b N c g B : Nat) (w : World) (ha : a = P.length) (hm : m = a + U.length) (hb : b = m + 1) (hU : 1 < U.length) (hn : N ≤ 1000) (hs : SortedK nk U)
    (ho : OW w B 37 ePair (.slice (some ⟨g, 0, none⟩) N c) (P ++ (U ++ [y]) ++ Q)) :
    Calls Try.prog 43 #[.slice (some ⟨g, 0, none⟩) N c, .int .i64 (a : Int), .int .i64 (m : Int), .int .i64 (b : Int), .func (.func 21) #[] #[]] w (SgPost B 37 g N c P Q (Srt nk (U ++ [y])) w) := by
  have hNl : N = P.length + U.length + 1 + Q.length := by rw [ho.len]; simp only [List.length_append, List.length_cons, List.length_nil]; omega
  obtain ⟨D1, hD1⟩ : ∃ D1, D1 = m - a := ⟨_, rfl⟩
  have w1 : IntKind.i64.wrap ((m : Int) - (a : Int)) = (D1 : Int) := by rw [IntWalk.i64_in _ (by omega)]; omega
  have w1' : ((D1 : Int) == 1) = false := beq_eq_false_iff_ne.2 (by omega)
  have w2 : IntKind.i64.wrap ((b : Int) - (m : Int)) = 1 := by rw [IntWalk.i64_in _ (by omega)]; omega
  obtain ⟨L, hL⟩ : ∃ L, L = P ++ (U ++ [y]) ++ Q := ⟨_, rfl⟩
  have hLy : L[m]? = some y := by
    rw [hL, List.append_assoc, List.getElem?_append_right (by omega), List.append_assoc, List.getElem?_append_right (by omega), show m - P.length - U.length = 0 by omega]; rfl
  have hLU : ∀ k (h : k < U.length), L[a + k]? = some U[k] := fun k h => by
    rw [hL, List.append_assoc, List.getElem?_append_right (by omega), show a + k - P.length = k by omega, List.append_assoc, List.getElem?_append_left h, List.getElem?_eq_getElem h]
  have hLl : L.length = N := by rw [hL]; exact ho.len.symm
  rw [← hL] at ho
  have HL := hide hL
  have HLY := hide hLy
  have HLU := hide hLU
  have HLL := hide hLl
  have HO := hide ho
  have HA := hide ha
  have HM := hide hm
  have HB := hide hb
  have HN := hide hNl
  have HS := hide hs
  have HREL : Hid (BsR (fun k => ∃ u, L[k]? = some u ∧ nk u ≤ nk y) a m w (.int .i64 (a : Int)) (.int .i64 (m : Int)) w) := hide ⟨a, m, by omega, by omega, by omega, rfl, rfl, fun h => by omega, fun h => by omega, Kp.refl _⟩
  clear ho ha hm hb hNl hs hL hLy hLU hLl hU hD1
  go_enter Try.func43, Try.ntmps43
  go_wp2
  go_loopw [14, 15] (BsR (fun k => ∃ u, L[k]? = some u ∧ nk u ≤ nk y) a m w) (fun i j _ => (intOf j - intOf i).toNat)
  case atStart => exact HREL.out
  case round =>
    clear HREL
    obtain ⟨i, j, hmi, hij, hjb, rfl, rfl, hc1, hc2, hkp⟩ := hrel
    have HC1 := hide hc1
    have HC2 := hide hc2
    have HKP := hide hkp
    have HOW := hide (HO.out.kp hkp)
    clear hc1 hc2 hkp
    by_cases hlt : i < j
    · have d0 : decide ((i : Int) < (j : Int)) = true := by simp; omega
      obtain ⟨h, hh⟩ : ∃ h, h = (i + j) / 2 := ⟨_, rfl⟩
      have h63 : i + j ≤ 1000000 := by have := HM.out; have := HB.out; have := HN.out; have := HA.out; omega
      have hH : ((i : Int) + (j : Int)) / 2 = (h : Int) := by omega
      have hhN : h < N := by have := HM.out; have := HB.out; have := HN.out; have := HA.out; omega
      obtain ⟨u, hu⟩ : ∃ y, y = L[h]'(by have := HLL.out; omega) := ⟨_, rfl⟩
      have hLh : L[h]? = some u := by rw [hu]; exact List.getElem?_eq_getElem _
      have hmN : m < N := by have := HM.out; have := HB.out; have := HN.out; have := HA.out; omega
      have HH := hide hh
      have HYL := hide hLh
      clear hh hu hLh
      by_cases hc : nk y < nk u
      · have HCC := hide hc
        have t3 : decide (cmp3 (nk y) (nk u) < 0) = true := by rw [cmp3_neg]; simpa using hc
        have t3' : (cmp3 (nk y) (nk u) < 0) = (true = true) := by have := t3; simp at this; simp; omega
        have px := HOW.out.pairAt? HLY.out
        have pz := HOW.out.pairAt? HYL.out
        obtain ⟨x0, x1, _, _⟩ := px
        obtain ⟨z0, z1, _, _⟩ := pz
        have i0 : (0 : Int) ≤ (m : Int) := by omega
        have i1 : (m : Int) < (N : Int) := by omega
        have i2 : (0 : Int) ≤ (h : Int) := by omega
        have i3 : (h : Int) < (N : Int) := by omega
        have KS : Hid (∀ W', Kp wr W' → (W'.cell? ⟨g, m * 2, none⟩ = some (.int .i64 y.1) ∧ W'.cell? ⟨g, m * 2 + 1, none⟩ = some (.int .i64 y.2) ∧ W'.cell? ⟨g, h * 2, none⟩ = some (.int .i64 u.1) ∧ W'.cell? ⟨g, h * 2 + 1, none⟩ = some (.int .i64 u.2) ∧ Kp wr W')) := hide fun W' h => ⟨h.cell x0, h.cell x1, h.cell z0, h.cell z1, h⟩
        have KD0 := Kp.refl wr
        have KD1 := KD0.drew
        go_wp2_with fail
        go_region_held3 (fun w' => w'.cell? ⟨g, m * 2, none⟩ = some (.int .i64 y.1) ∧ w'.cell? ⟨g, m * 2 + 1, none⟩ = some (.int .i64 y.2) ∧ w'.cell? ⟨g, h * 2, none⟩ = some (.int .i64 u.1) ∧ w'.cell? ⟨g, h * 2 + 1, none⟩ = some (.int .i64 u.2) ∧ Kp wr w') ((go_split_ands; refine KS.out _ ?_; (focus ((repeat (first | (with_reducible assumption) | (with_reducible exact Kp.refl _) | (with_reducible apply Kp.drew) | (with_reducible apply Kp.drewN) | ((with_reducible apply Kp.setR); (focus (first | (with_reducible assumption) | (simp; done) | (simp; omega)))) | (with_reducible apply Kp.alloc) | ((with_reducible apply Kp.call); (with_reducible assumption)) | ((with_reducible apply Kp.app); (with_reducible assumption)))); done))))
          (first
            | (go_at_call 21; refine (ord_any y u _).mono ?_; rintro e w5 ⟨rfl, hb5⟩))
        all_goals
          have k5 : Kp wr w5 := by go_split_ands; (focus ((repeat (first | (with_reducible assumption) | (with_reducible exact Kp.refl _) | (with_reducible apply Kp.drew) | (with_reducible apply Kp.drewN) | ((with_reducible apply Kp.setR); (focus (first | (with_reducible assumption) | (simp; done) | (simp; omega)))) | (with_reducible apply Kp.alloc) | ((with_reducible apply Kp.call); (with_reducible assumption)) | ((with_reducible apply Kp.app); (with_reducible assumption)))); done))
          have HK5 := hide (HKP.out.trans k5)
          clear KS KD0 KD1 x0 x1 z0 z1 k5 hb5
          clear hc
          go_wp2
          go_roundw
          case rel => exact ⟨i, h, hmi, by have := HH.out; omega, by have := HH.out; omega, rfl, rfl, HC1.out, fun _ ⟨y', h1, h2⟩ => by
            rw [HYL.out] at h1; injection h1 with h1; subst h1; have := HCC.out; omega, HK5.out⟩
          case measure => have := HH.out; simp [intOf]; omega
      · have HCC := hide hc
        have t3 : decide (cmp3 (nk y) (nk u) < 0) = false := by rw [cmp3_neg]; simpa using hc
        have t3' : (cmp3 (nk y) (nk u) < 0) = (false = true) := by have := t3; simp at this; simp; omega
        have px := HOW.out.pairAt? HLY.out
        have pz := HOW.out.pairAt? HYL.out
        obtain ⟨x0, x1, _, _⟩ := px
        obtain ⟨z0, z1, _, _⟩ := pz
        have i0 : (0 : Int) ≤ (m : Int) := by omega
        have i1 : (m : Int) < (N : Int) := by omega
        have i2 : (0 : Int) ≤ (h : Int) := by omega
        have i3 : (h : Int) < (N : Int) := by omega
        have KS : Hid (∀ W', Kp wr W' → (W'.cell? ⟨g, m * 2, none⟩ = some (.int .i64 y.1) ∧ W'.cell? ⟨g, m * 2 + 1, none⟩ = some (.int .i64 y.2) ∧ W'.cell? ⟨g, h * 2, none⟩ = some (.int .i64 u.1) ∧ W'.cell? ⟨g, h * 2 + 1, none⟩ = some (.int .i64 u.2) ∧ Kp wr W')) := hide fun W' h => ⟨h.cell x0, h.cell x1, h.cell z0, h.cell z1, h⟩
        have KD0 := Kp.refl wr
        have KD1 := KD0.drew
        go_wp2_with fail
        go_region_held3 (fun w' => w'.cell? ⟨g, m * 2, none⟩ = some (.int .i64 y.1) ∧ w'.cell? ⟨g, m * 2 + 1, none⟩ = some (.int .i64 y.2) ∧ w'.cell? ⟨g, h * 2, none⟩ = some (.int .i64 u.1) ∧ w'.cell? ⟨g, h * 2 + 1, none⟩ = some (.int .i64 u.2) ∧ Kp wr w') ((go_split_ands; refine KS.out _ ?_; (focus ((repeat (first | (with_reducible assumption) | (with_reducible exact Kp.refl _) | (with_reducible apply Kp.drew) | (with_reducible apply Kp.drewN) | ((with_reducible apply Kp.setR); (focus (first | (with_reducible assumption) | (simp; done) | (simp; omega)))) | (with_reducible apply Kp.alloc) | ((with_reducible apply Kp.call); (with_reducible assumption)) | ((with_reducible apply Kp.app); (with_reducible assumption)))); done))))
          (first
            | (go_at_call 21; refine (ord_any y u _).mono ?_; rintro e w5 ⟨rfl, hb5⟩))
        all_goals
          have k5 : Kp wr w5 := by go_split_ands; (focus ((repeat (first | (with_reducible assumption) | (with_reducible exact Kp.refl _) | (with_reducible apply Kp.drew) | (with_reducible apply Kp.drewN) | ((with_reducible apply Kp.setR); (focus (first | (with_reducible assumption) | (simp; done) | (simp; omega)))) | (with_reducible apply Kp.alloc) | ((with_reducible apply Kp.call); (with_reducible assumption)) | ((with_reducible apply Kp.app); (with_reducible assumption)))); done))
          have HK5 := hide (HKP.out.trans k5)
          clear KS KD0 KD1 x0 x1 z0 z1 k5 hb5
          clear hc
          go_wp2
          go_roundw
          case rel => exact ⟨h + 1, j, by have := HH.out; omega, by have := HH.out; omega, hjb, by go_num, rfl, fun _ => ⟨u, HYL.out, by have := HCC.out; omega⟩, HC2.out, HK5.out⟩
          case measure => have := HH.out; simp [intOf]; omega
    · obtain rfl : i = j := by omega
      have d0 : decide ((i : Int) < (i : Int)) = false := by simp
      obtain ⟨k0, hk0⟩ : ∃ k0, k0 = i - a := ⟨_, rfl⟩
      have hkU : k0 ≤ U.length := by have := HM.out; omega
      have hfl := back_law (key := nk) (y := y) HS.out (k := k0) hkU (fun h => by
        obtain ⟨u, h1, h2⟩ := HC1.out (by omega)
        have := HLU.out (k0 - 1) (by omega)
        rw [show a + (k0 - 1) = i - 1 by omega, h1] at this
        injection this with this
        rw [← this]; omega) (fun h => by
        have h1 := HC2.out (by have := HM.out; omega)
        have := HLU.out k0 h
        rw [show a + k0 = i by omega] at this
        apply Decidable.byContradiction
        intro h2
        exact h1 ⟨_, this, by omega⟩)
      have HFL := hide hfl
      have hE2 : i = a + k0 := by omega
      have HE2 := hide hE2
      have HKU := hide hkU
      obtain ⟨wb, rfl⟩ : ∃ x, x = wr := ⟨_, rfl⟩
      have HREL2 : Hid (SyB B 37 g N c a k0 P U Q y w (.int .i64 (m : Int)) wb) := hide ⟨U.length, by rw [HM.out], hkU, Nat.le_refl _, by have h := HOW.out; rw [HL.out] at h; simpa using h, Kf.of HKP.out⟩
      clear hfl hk0 hkU hE2
      go_wp2
      go_loopw [17] (SyB B 37 g N c a k0 P U Q y w) (fun kv _ => (intOf kv).toNat)
      case atStart => exact HREL2.out
      case round =>
        clear HREL2
        obtain ⟨t, rfl, htk, htU, ho, hkf⟩ := hrel
        obtain ⟨k, hk⟩ : ∃ k, k = a + t := ⟨_, rfl⟩
        obtain ⟨w5, rfl⟩ : ∃ x, x = wr := ⟨_, rfl⟩
        rw [← hk]
        have HO5 := hide ho
        have HKF := hide hkf
        have HKA := hide hk
        have hNN := HN.out
        have hAA := HA.out
        have hMM := HM.out
        have hBB := HB.out
        have hEE := HE2.out
        have hKK := HKU.out
        by_cases hlt2 : i < k
        · have d1 : decide (i < k) = true := decide_eq_true hlt2
          obtain ⟨K1, hK1⟩ : ∃ K1, K1 = k - 1 := ⟨_, rfl⟩
          obtain ⟨t1, rfl⟩ : ∃ t1, t = t1 + 1 := ⟨t - 1, by omega⟩
          have htl : t1 < U.length := by omega
          obtain ⟨z, hz⟩ : ∃ y, y = U[t1] := ⟨_, rfl⟩
          have hLL : P ++ (U.take (t1 + 1) ++ y :: U.drop (t1 + 1)) ++ Q = (P ++ U.take t1) ++ z :: y :: (U.drop (t1 + 1) ++ Q) := by
            rw [List.take_succ_eq_append_getElem htl, hz]; simp only [List.append_assoc, List.cons_append, List.nil_append]
          have HO6 : Hid (OW w5 B 37 ePair (.slice (some ⟨g, 0, none⟩) N c) ((P ++ U.take t1) ++ z :: y :: (U.drop (t1 + 1) ++ Q))) := hide (hLL ▸ HO5.out)
          have hks : k = (P ++ U.take t1).length + 1 := by simp; omega
          have hK1s : K1 = (P ++ U.take t1).length := by simp; omega
          have hgx : ((P ++ U.take t1) ++ z :: y :: (U.drop (t1 + 1) ++ Q))[k]? = some y := by rw [hks]; exact (at_next _ _ _ _).2
          have hgz : ((P ++ U.take t1) ++ z :: y :: (U.drop (t1 + 1) ++ Q))[K1]? = some z := by rw [hK1s]; exact (at_next _ _ _ _).1
          have HNX := hide (sw_next (P ++ U.take t1) z y (U.drop (t1 + 1) ++ Q) k K1 hks hK1s)
          have HT1 : Hid (P ++ (U.take t1 ++ y :: U.drop t1) ++ Q = (P ++ U.take t1) ++ y :: z :: (U.drop (t1 + 1) ++ Q)) := hide (by
            rw [List.drop_eq_getElem_cons htl, ← hz]; simp only [List.append_assoc, List.cons_append])
          have bk : k < N := by omega
          have bK : K1 < N := by omega
          have hk1 : IntKind.i64.wrap ((k : Int) - 1) = (K1 : Int) := by rw [IntWalk.i64_in _ (by omega)]; omega
          have HTK : Hid (k0 ≤ t1 ∧ t1 ≤ U.length) := hide (by omega)
          have HK1 := hide hK1
          clear ho hkf hk hz hLL hks hK1s hK1 hNN hAA hMM hBB hEE hKK htl
          go_wp2_with fail
          obtain ⟨W0, hW0⟩ : ∃ W0, W0 = w5.drew := ⟨_, rfl⟩
          have ho0 : OW W0 B 37 ePair (.slice (some ⟨g, 0, none⟩) N c) ((P ++ U.take t1) ++ z :: y :: (U.drop (t1 + 1) ++ Q)) := by rw [hW0]; exact (HO6.out).drew
          have hof : Kf (fun k => k = g) w5 W0 := by rw [hW0]; exact Kf.of (Kp.refl _).drew
          have ho1 := ho0.setPair k (by have := ho0.len; omega) z
          have LDk := ld_pair ho0 (k := k) (x := y) (by assumption)
          have LDK1 := ld_pair ho0 (k := K1) (x := z) (by assumption)
          have ST1 := st_pair ho0 (k := k) (by have := ho0.len; omega) z
          have ST2 := st_pair ho1 (k := K1) (by have := ho1.len; omega) y
          have Rk := ix_pair N c g k (by omega)
          have RK1 := ix_pair N c g K1 (by omega)
          have HSW := hide (ho0.sw (i := k) (j := K1) (by have := ho0.len; omega) (by have := ho0.len; omega) y z)
          have HKW := hide (Kf.sw (Kf.sw hof (F := fun k => k = g) rfl k z) (F := fun k => k = g) rfl K1 y)
          refine wp_region_tab (by kernel_rfl) [(113, .slice (some ⟨g, 0, none⟩) N c), (114, .int .i64 (k : Int)), (115, .slice (some ⟨g, 0, none⟩) N c), (116, .int .i64 (k : Int)), (117, .int .i64 (K1 : Int)), (118, .slice (some ⟨g, 0, none⟩) N c), (119, .int .i64 (k : Int)), (120, .int .i64 (K1 : Int)), (121, .pointer (some ⟨g, K1 * 2, none⟩)), (122, (pv z)), (123, .slice (some ⟨g, 0, none⟩) N c), (124, .int .i64 (k : Int)), (125, .pointer (some ⟨g, k * 2, none⟩)), (126, (pv y)), (127, .pointer (some ⟨g, k * 2, none⟩)), (128, .pointer (some ⟨g, K1 * 2, none⟩))] (fun _ _ _ => True) (JS W0 (swW1 W0 g k z) (swW1 (swW1 W0 g k z) g K1 y) 15 17 9 13) (by rw [hW0]; exact JS.start (by decide) (by decide)) (by kernel_rfl) (by kernel_rfl) ?_ ?_
          · refine ⟨?_, ?_, ?_, ?_, ?_, ?_, ?_, ?_, ?_, ?_, ?_, ?_, ?_, ?_, ?_, ?_, ?_, ?_, trivial⟩
            · intro hop L a w5 hs hk hl ha keep know spec
              have h0 := keep 0 (.slice (some ⟨g, 0, none⟩) N c) (by kernel_rfl) rfl
              exact wpOp_value hop (wanted_none rfl) (v := .slice (some ⟨g, 0, none⟩) N c) (by simp only [execOp, Act.eval, h0]; rfl) ⟨_, rfl, hk.go (by decide) (by decide), (fun d hd => by injection hd with hd; subst hd; exact ⟨tab rfl, trivial⟩), fun _ _ h => h⟩
            · intro hop L a w5 hs hk hl ha keep know spec
              have h17 := keep 17 (.int .i64 (k : Int)) (by kernel_rfl) rfl
              exact wpOp_value hop (wanted_none rfl) (v := .int .i64 (k : Int)) (by simp only [execOp, Act.eval, h17]; rfl) ⟨_, rfl, hk.go (by decide) (by decide), (fun d hd => by injection hd with hd; subst hd; exact ⟨tab rfl, trivial⟩), fun _ _ h => h⟩
            · intro hop L a w5 hs hk hl ha keep know spec
              have h0 := keep 0 (.slice (some ⟨g, 0, none⟩) N c) (by kernel_rfl) rfl
              exact wpOp_value hop (wanted_none rfl) (v := .slice (some ⟨g, 0, none⟩) N c) (by simp only [execOp, Act.eval, h0]; rfl) ⟨_, rfl, hk.go (by decide) (by decide), (fun d hd => by injection hd with hd; subst hd; exact ⟨tab rfl, trivial⟩), fun _ _ h => h⟩
            · intro hop L a w5 hs hk hl ha keep know spec
              have h17 := keep 17 (.int .i64 (k : Int)) (by kernel_rfl) rfl
              exact wpOp_value hop (wanted_none rfl) (v := .int .i64 (k : Int)) (by simp only [execOp, Act.eval, h17]; rfl) ⟨_, rfl, hk.go (by decide) (by decide), (fun d hd => by injection hd with hd; subst hd; exact ⟨tab rfl, trivial⟩), fun _ _ h => h⟩
            · intro hop L a w5 hs hk hl ha keep know spec
              have h116 := know 116 (.int .i64 (k : Int)) (by kernel_rfl) rfl
              exact wpOp_value hop (wanted_none rfl) (v := .int .i64 (K1 : Int)) (by simp only [execOp, Act.eval, h116]; go_simp; done) ⟨_, rfl, hk.go (by decide) (by decide), (fun d hd => by injection hd with hd; subst hd; exact ⟨tab rfl, trivial⟩), fun _ _ h => h⟩
            · intro hop L a w5 hs hk hl ha keep know spec
              have h0 := keep 0 (.slice (some ⟨g, 0, none⟩) N c) (by kernel_rfl) rfl
              exact wpOp_value hop (wanted_none rfl) (v := .slice (some ⟨g, 0, none⟩) N c) (by simp only [execOp, Act.eval, h0]; rfl) ⟨_, rfl, hk.go (by decide) (by decide), (fun d hd => by injection hd with hd; subst hd; exact ⟨tab rfl, trivial⟩), fun _ _ h => h⟩
            · intro hop L a w5 hs hk hl ha keep know spec
              have h17 := keep 17 (.int .i64 (k : Int)) (by kernel_rfl) rfl
              exact wpOp_value hop (wanted_none rfl) (v := .int .i64 (k : Int)) (by simp only [execOp, Act.eval, h17]; rfl) ⟨_, rfl, hk.go (by decide) (by decide), (fun d hd => by injection hd with hd; subst hd; exact ⟨tab rfl, trivial⟩), fun _ _ h => h⟩
            · intro hop L a w5 hs hk hl ha keep know spec
              have h119 := know 119 (.int .i64 (k : Int)) (by kernel_rfl) rfl
              exact wpOp_value hop (wanted_none rfl) (v := .int .i64 (K1 : Int)) (by simp only [execOp, Act.eval, h119]; go_simp; done) ⟨_, rfl, hk.go (by decide) (by decide), (fun d hd => by injection hd with hd; subst hd; exact ⟨tab rfl, trivial⟩), fun _ _ h => h⟩
            · intro hop L a w5 hs hk hl ha keep know spec
              have h118 := know 118 (.slice (some ⟨g, 0, none⟩) N c) (by kernel_rfl) rfl
              have h120 := know 120 (.int .i64 (K1 : Int)) (by kernel_rfl) rfl
              exact wpOp_value hop (wanted_none rfl) (v := .pointer (some ⟨g, K1 * 2, none⟩)) (by simp only [execOp, Act.eval, h118, h120]; exact run_v (RK1 w5)) ⟨_, rfl, hk.go (by decide) (by decide), (fun d hd => by injection hd with hd; subst hd; exact ⟨tab rfl, trivial⟩), fun _ _ h => h⟩
            · intro hop L a w5 hs hk hl ha keep know spec
              have h121 := know 121 (.pointer (some ⟨g, K1 * 2, none⟩)) (by kernel_rfl) rfl
              have e5 := hk.ld1 hl
              subst e5
              exact wpOp_value hop (wanted_none rfl) (v := (pv z)) (by simp only [execOp, Act.eval, h121]; exact run_v LDK1) ⟨_, rfl, hk.go (by decide) (by decide), (fun d hd => by injection hd with hd; subst hd; exact ⟨tab rfl, trivial⟩), fun _ _ h => h⟩
            · intro hop L a w5 hs hk hl ha keep know spec
              have h0 := keep 0 (.slice (some ⟨g, 0, none⟩) N c) (by kernel_rfl) rfl
              exact wpOp_value hop (wanted_none rfl) (v := .slice (some ⟨g, 0, none⟩) N c) (by simp only [execOp, Act.eval, h0]; rfl) ⟨_, rfl, hk.go (by decide) (by decide), (fun d hd => by injection hd with hd; subst hd; exact ⟨tab rfl, trivial⟩), fun _ _ h => h⟩
            · intro hop L a w5 hs hk hl ha keep know spec
              have h17 := keep 17 (.int .i64 (k : Int)) (by kernel_rfl) rfl
              exact wpOp_value hop (wanted_none rfl) (v := .int .i64 (k : Int)) (by simp only [execOp, Act.eval, h17]; rfl) ⟨_, rfl, hk.go (by decide) (by decide), (fun d hd => by injection hd with hd; subst hd; exact ⟨tab rfl, trivial⟩), fun _ _ h => h⟩
            · intro hop L a w5 hs hk hl ha keep know spec
              have h123 := know 123 (.slice (some ⟨g, 0, none⟩) N c) (by kernel_rfl) rfl
              have h124 := know 124 (.int .i64 (k : Int)) (by kernel_rfl) rfl
              exact wpOp_value hop (wanted_none rfl) (v := .pointer (some ⟨g, k * 2, none⟩)) (by simp only [execOp, Act.eval, h123, h124]; exact run_v (Rk w5)) ⟨_, rfl, hk.go (by decide) (by decide), (fun d hd => by injection hd with hd; subst hd; exact ⟨tab rfl, trivial⟩), fun _ _ h => h⟩
            · intro hop L a w5 hs hk hl ha keep know spec
              have h125 := know 125 (.pointer (some ⟨g, k * 2, none⟩)) (by kernel_rfl) rfl
              have e5 := hk.ld2 hl
              subst e5
              exact wpOp_value hop (wanted_none rfl) (v := (pv y)) (by simp only [execOp, Act.eval, h125]; exact run_v LDk) ⟨_, rfl, hk.go (by decide) (by decide), (fun d hd => by injection hd with hd; subst hd; exact ⟨tab rfl, trivial⟩), fun _ _ h => h⟩
            · intro hop L a w5 hs hk hl ha keep know spec
              have h113 := know 113 (.slice (some ⟨g, 0, none⟩) N c) (by kernel_rfl) rfl
              have h114 := know 114 (.int .i64 (k : Int)) (by kernel_rfl) rfl
              exact wpOp_value hop (wanted_none rfl) (v := .pointer (some ⟨g, k * 2, none⟩)) (by simp only [execOp, Act.eval, h113, h114]; exact run_v (Rk w5)) ⟨_, rfl, hk.go (by decide) (by decide), (fun d hd => by injection hd with hd; subst hd; exact ⟨tab rfl, trivial⟩), fun _ _ h => h⟩
            · intro hop L a w5 hs hk hl ha keep know spec
              have h127 := know 127 (.pointer (some ⟨g, k * 2, none⟩)) (by kernel_rfl) rfl
              have h122 := know 122 ((pv z)) (by kernel_rfl) rfl
              obtain ⟨e5, hk2⟩ := hk.st1 hl (after_done ha (k := 9) (by kernel_rfl)) (after_done ha (k := 13) (by kernel_rfl)) (by decide)
              subst e5
              exact wpOp_skip hop (wanted_none rfl) (by simp only [execOp, Act.eval, h127, h122]; exact run_u ST1) ⟨_, rfl, hk2, (fun d hd => by cases hd), fun _ _ h => h⟩
            · intro hop L a w5 hs hk hl ha keep know spec
              have h115 := know 115 (.slice (some ⟨g, 0, none⟩) N c) (by kernel_rfl) rfl
              have h117 := know 117 (.int .i64 (K1 : Int)) (by kernel_rfl) rfl
              exact wpOp_value hop (wanted_none rfl) (v := .pointer (some ⟨g, K1 * 2, none⟩)) (by simp only [execOp, Act.eval, h115, h117]; exact run_v (RK1 w5)) ⟨_, rfl, hk.go (by decide) (by decide), (fun d hd => by injection hd with hd; subst hd; exact ⟨tab rfl, trivial⟩), fun _ _ h => h⟩
            · intro hop L a w5 hs hk hl ha keep know spec
              have h128 := know 128 (.pointer (some ⟨g, K1 * 2, none⟩)) (by kernel_rfl) rfl
              have h126 := know 126 ((pv y)) (by kernel_rfl) rfl
              obtain ⟨e5, hk2⟩ := hk.st2 hl (after_done ha (k := 15) (by kernel_rfl))
              subst e5
              exact wpOp_skip hop (wanted_none rfl) (by simp only [execOp, Act.eval, h128, h126]; exact run_u ST2) ⟨_, rfl, hk2, (fun d hd => by cases hd), fun _ _ h => h⟩
          · intro a' w6 e1 e2 hk keep know spec
            obtain ⟨tm, df⟩ := a'
            obtain ⟨f, hf⟩ := frame_puts (D := [113, 114, 115, 116, 117, 118, 119, 120, 121, 122, 123, 124, 125, 126, 127, 128]) e2 keep
            have e1' : df = [] := e1
            have e6 := hk.done (n := 18) (by decide) (by decide)
            clear keep know spec e1 e2 hk
            simp only [List.foldl_cons, List.foldl_nil] at hf
            subst e1'
            subst e6
            rw [hf]
            clear hf
            clear LDk LDK1 ST1 ST2 Rk RK1 ho0 ho1 hof hgx hgz hW0
            go_wp2
            go_roundw
            case rel => exact ⟨t1, by have := HK1.out; have := HKA.out; congr 1; omega, HTK.out.1, HTK.out.2, by have h := HSW.out; rw [HNX.out, ← HT1.out] at h; exact h, HKF.out.trans HKW.out (fun _ _ h => h)⟩
            case measure => have := HK1.out; have := HKA.out; simp [intOf]; omega
        · have d1 : decide (i < k) = false := decide_eq_false hlt2
          have htk : t = k0 := by omega
          subst htk
          have HFO := hide ho
          clear ho hkf hk hNN hAA hMM hBB hEE hKK
          go_wp2
          exact bodyPost_ret (v := .tuple #[]) (by simp [results, Try.results43, go_sem]) rfl ⟨rfl, _, ⟨HFL.out.1, HFL.out.2, by simp; have := HKU.out; omega⟩, HFO.out, HKF.out⟩
end Go.Proofs.Ythbapflabjogkaa
