/-
  slices.symMergeCmpFunc at spots: what it leaves of two sorted parts. Conditions: the row is the call's own (OW).
-/
import Derived.Test.YthbapflabjogkaaHeapOneM30

namespace Go.Proofs.Ythbapflabjogkaa
open Go.ChangeShapes Go.WideShapes Go.ChangeAt Go.RowKit
set_option linter.unusedVariables false
set_option linter.unusedSimpArgs false

/-- A search by halves: where cond ends. -/
def BsR (cond : Nat → Prop) (lo hi : Nat) (w : World) (iv jv : Value) (wr : World) : Prop :=
  ∃ i j : Nat, lo ≤ i ∧ i ≤ j ∧ j ≤ hi ∧ iv = .int .i64 (i : Int) ∧ jv = .int .i64 (j : Int) ∧ (lo < i → cond (i - 1)) ∧ (j < hi → ¬ cond j) ∧ Kp w wr
def SyA (Bk : Nat) (e : TypeId) (g N c a k0 : Nat) (P V Q : List IP) (x : IP) (w : World) (kv : Value) (wr : World) : Prop :=
  ∃ t : Nat, kv = .int .i64 ((a + t : Nat) : Int) ∧ t ≤ k0 ∧ OW wr Bk e ePair (.slice (some ⟨g, 0, none⟩) N c) (P ++ (V.take t ++ x :: V.drop t) ++ Q) ∧ Kf (fun k => k = g) w wr
/-- What the whole of symMerge leaves, parts no longer than k. -/
def SymGoal (k : Nat) : Prop := ∀ (P U V Q : List IP) (a m b N c g B : Nat) (w : World), U.length + V.length ≤ k → a = P.length → m = a + U.length → b = m + V.length → 0 < U.length → 0 < V.length → N ≤ 1000 → SortedK nk U → SortedK nk V →
  OW w B 37 ePair (.slice (some ⟨g, 0, none⟩) N c) (P ++ (U ++ V) ++ Q) →
  Calls Try.prog 43 #[.slice (some ⟨g, 0, none⟩) N c, .int .i64 (a : Int), .int .i64 (m : Int), .int .i64 (b : Int), .func (.func 21) #[] #[]] w (SgPost B 37 g N c P Q (Srt nk (U ++ V)) w)
set_option maxRecDepth 100000 in
set_option maxHeartbeats 16000000 in
theorem symA_any (P V Q : List IP) (x : IP) (a m b N c g B : Nat) (w : World) (ha : a = P.length) (hm : m = a + 1) (hb : b = m + V.length) (hV : 0 < V.length) (hn : N ≤ 1000) (hs : SortedK nk V)
    (ho : OW w B 37 ePair (.slice (some ⟨g, 0, none⟩) N c) (P ++ (x :: V) ++ Q)) :
    Calls Try.prog 43 #[.slice (some ⟨g, 0, none⟩) N c, .int .i64 (a : Int), .int .i64 (m : Int), .int .i64 (b : Int), .func (.func 21) #[] #[]] w (SgPost B 37 g N c P Q (Srt nk (x :: V)) w) := by
  have hNl : N = P.length + V.length + 1 + Q.length := by rw [ho.len]; simp only [List.length_append, List.length_cons]; omega
  have w1 : IntKind.i64.wrap ((m : Int) - (a : Int)) = 1 := by rw [IntWalk.i64_in _ (by omega)]; omega
  obtain ⟨L, hL⟩ : ∃ L, L = P ++ (x :: V) ++ Q := ⟨_, rfl⟩
  have hLx : L[a]? = some x := by rw [hL, ha, List.append_assoc, List.getElem?_append_right (Nat.le_refl _)]; simp
  have hLV : ∀ k (h : k < V.length), L[m + k]? = some V[k] := fun k h => by
    rw [hL, List.append_assoc, List.getElem?_append_right (by omega), show m + k - P.length = k + 1 by omega, List.cons_append, List.getElem?_cons_succ, List.getElem?_append_left h, List.getElem?_eq_getElem h]
  have hLl : L.length = N := by rw [hL]; exact ho.len.symm
  rw [← hL] at ho
  have HL := hide hL
  have HLX := hide hLx
  have HLV := hide hLV
  have HLL := hide hLl
  have HO := hide ho
  have HA := hide ha
  have HM := hide hm
  have HB := hide hb
  have HN := hide hNl
  have HS := hide hs
  have HREL : Hid (BsR (fun k => ∃ y, L[k]? = some y ∧ nk y < nk x) m b w (.int .i64 (m : Int)) (.int .i64 (b : Int)) w) := hide ⟨m, b, by omega, by omega, by omega, rfl, rfl, fun h => by omega, fun h => by omega, Kp.refl _⟩
  clear ho ha hm hb hNl hs hL hLx hLV hLl hV
  go_enter Try.func43, Try.ntmps43
  go_wp2
  go_loopw [10, 11] (BsR (fun k => ∃ y, L[k]? = some y ∧ nk y < nk x) m b w) (fun i j _ => (intOf j - intOf i).toNat)
  case atStart => exact HREL.out
  case round =>
    clear HREL
    obtain ⟨i, j, hmi, hij, hjb, rfl, rfl, hc1, hc2, hkp⟩ := hrel
    have HC1 := hide hc1
    have HC2 := hide hc2
    have HKP := hide hkp
    have HOW := hide (HO.out.kp hkp)
    clear hc1 hc2 hkp
    by_cases hlt : i < j
    · have d0 : decide ((i : Int) < (j : Int)) = true := by simp; omega
      obtain ⟨h, hh⟩ : ∃ h, h = (i + j) / 2 := ⟨_, rfl⟩
      have h63 : i + j ≤ 1000000 := by have := HM.out; have := HB.out; have := HN.out; have := HA.out; omega
      have hH : ((i : Int) + (j : Int)) / 2 = (h : Int) := by omega
      have hhN : h < N := by have := HM.out; have := HB.out; have := HN.out; have := HA.out; omega
      obtain ⟨y, hy⟩ : ∃ y, y = L[h]'(by have := HLL.out; omega) := ⟨_, rfl⟩
      have hLh : L[h]? = some y := by rw [hy]; exact List.getElem?_eq_getElem _
      have haN : a < N := by have := HM.out; have := HB.out; have := HN.out; have := HA.out; omega
      have HH := hide hh
      have HYL := hide hLh
      clear hh hy hLh
      by_cases hc : nk y < nk x
      · have t3 : decide (cmp3 (nk y) (nk x) < 0) = true := by rw [cmp3_neg]; simpa using hc
        have t3' : (cmp3 (nk y) (nk x) < 0) = (true = true) := by have := t3; simp at this; simp; omega
        have px := HOW.out.pairAt? HYL.out
        have pz := HOW.out.pairAt? HLX.out
        obtain ⟨x0, x1, _, _⟩ := px
        obtain ⟨z0, z1, _, _⟩ := pz
        have i0 : (0 : Int) ≤ (h : Int) := by omega
        have i1 : (h : Int) < (N : Int) := by omega
        have i2 : (0 : Int) ≤ (a : Int) := by omega
        have i3 : (a : Int) < (N : Int) := by omega
        have KS : Hid (∀ W', Kp wr W' → (W'.cell? ⟨g, h * 2, none⟩ = some (.int .i64 y.1) ∧ W'.cell? ⟨g, h * 2 + 1, none⟩ = some (.int .i64 y.2) ∧ W'.cell? ⟨g, a * 2, none⟩ = some (.int .i64 x.1) ∧ W'.cell? ⟨g, a * 2 + 1, none⟩ = some (.int .i64 x.2) ∧ Kp wr W')) := hide fun W' h => ⟨h.cell x0, h.cell x1, h.cell z0, h.cell z1, h⟩
        have KD0 := Kp.refl wr
        have KD1 := KD0.drew
        go_wp2_with fail
        go_region_held3 (fun w' => w'.cell? ⟨g, h * 2, none⟩ = some (.int .i64 y.1) ∧ w'.cell? ⟨g, h * 2 + 1, none⟩ = some (.int .i64 y.2) ∧ w'.cell? ⟨g, a * 2, none⟩ = some (.int .i64 x.1) ∧ w'.cell? ⟨g, a * 2 + 1, none⟩ = some (.int .i64 x.2) ∧ Kp wr w') ((go_split_ands; refine KS.out _ ?_; (focus ((repeat (first | (with_reducible assumption) | (with_reducible exact Kp.refl _) | (with_reducible apply Kp.drew) | (with_reducible apply Kp.drewN) | ((with_reducible apply Kp.setR); (focus (first | (with_reducible assumption) | (simp; done) | (simp; omega)))) | (with_reducible apply Kp.alloc) | ((with_reducible apply Kp.call); (with_reducible assumption)) | ((with_reducible apply Kp.app); (with_reducible assumption)))); done))))
          (first
            | (go_at_call 21; refine (ord_any y x _).mono ?_; rintro e w5 ⟨rfl, hb5⟩))
        all_goals
          have k5 : Kp wr w5 := by go_split_ands; (focus ((repeat (first | (with_reducible assumption) | (with_reducible exact Kp.refl _) | (with_reducible apply Kp.drew) | (with_reducible apply Kp.drewN) | ((with_reducible apply Kp.setR); (focus (first | (with_reducible assumption) | (simp; done) | (simp; omega)))) | (with_reducible apply Kp.alloc) | ((with_reducible apply Kp.call); (with_reducible assumption)) | ((with_reducible apply Kp.app); (with_reducible assumption)))); done))
          have HK5 := hide (HKP.out.trans k5)
          clear KS KD0 KD1 x0 x1 z0 z1 k5 hb5
          have HCC := hide hc
          clear hc
          go_wp2
          go_roundw
          case rel => exact ⟨h + 1, j, by omega, by have := HH.out; omega, hjb, by go_num, rfl, fun _ => ⟨y, HYL.out, HCC.out⟩, HC2.out, HK5.out⟩
          case measure => have := HH.out; simp [intOf]; omega
      · have t3 : decide (cmp3 (nk y) (nk x) < 0) = false := by rw [cmp3_neg]; simpa using hc
        have t3' : (cmp3 (nk y) (nk x) < 0) = (false = true) := by have := t3; simp at this; simp; omega
        have px := HOW.out.pairAt? HYL.out
        have pz := HOW.out.pairAt? HLX.out
        obtain ⟨x0, x1, _, _⟩ := px
        obtain ⟨z0, z1, _, _⟩ := pz
        have i0 : (0 : Int) ≤ (h : Int) := by omega
        have i1 : (h : Int) < (N : Int) := by omega
        have i2 : (0 : Int) ≤ (a : Int) := by omega
        have i3 : (a : Int) < (N : Int) := by omega
        have KS : Hid (∀ W', Kp wr W' → (W'.cell? ⟨g, h * 2, none⟩ = some (.int .i64 y.1) ∧ W'.cell? ⟨g, h * 2 + 1, none⟩ = some (.int .i64 y.2) ∧ W'.cell? ⟨g, a * 2, none⟩ = some (.int .i64 x.1) ∧ W'.cell? ⟨g, a * 2 + 1, none⟩ = some (.int .i64 x.2) ∧ Kp wr W')) := hide fun W' h => ⟨h.cell x0, h.cell x1, h.cell z0, h.cell z1, h⟩
        have KD0 := Kp.refl wr
        have KD1 := KD0.drew
        go_wp2_with fail
        go_region_held3 (fun w' => w'.cell? ⟨g, h * 2, none⟩ = some (.int .i64 y.1) ∧ w'.cell? ⟨g, h * 2 + 1, none⟩ = some (.int .i64 y.2) ∧ w'.cell? ⟨g, a * 2, none⟩ = some (.int .i64 x.1) ∧ w'.cell? ⟨g, a * 2 + 1, none⟩ = some (.int .i64 x.2) ∧ Kp wr w') ((go_split_ands; refine KS.out _ ?_; (focus ((repeat (first | (with_reducible assumption) | (with_reducible exact Kp.refl _) | (with_reducible apply Kp.drew) | (with_reducible apply Kp.drewN) | ((with_reducible apply Kp.setR); (focus (first | (with_reducible assumption) | (simp; done) | (simp; omega)))) | (with_reducible apply Kp.alloc) | ((with_reducible apply Kp.call); (with_reducible assumption)) | ((with_reducible apply Kp.app); (with_reducible assumption)))); done))))
          (first
            | (go_at_call 21; refine (ord_any y x _).mono ?_; rintro e w5 ⟨rfl, hb5⟩))
        all_goals
          have k5 : Kp wr w5 := by go_split_ands; (focus ((repeat (first | (with_reducible assumption) | (with_reducible exact Kp.refl _) | (with_reducible apply Kp.drew) | (with_reducible apply Kp.drewN) | ((with_reducible apply Kp.setR); (focus (first | (with_reducible assumption) | (simp; done) | (simp; omega)))) | (with_reducible apply Kp.alloc) | ((with_reducible apply Kp.call); (with_reducible assumption)) | ((with_reducible apply Kp.app); (with_reducible assumption)))); done))
          have HK5 := hide (HKP.out.trans k5)
          clear KS KD0 KD1 x0 x1 z0 z1 k5 hb5
          have HCC := hide hc
          clear hc
          go_wp2
          go_roundw
          case rel => exact ⟨i, h, hmi, by have := HH.out; omega, by have := HH.out; omega, rfl, rfl, HC1.out, fun _ ⟨y', h1, h2⟩ => by
            rw [HYL.out] at h1; injection h1 with h1; subst h1; have := HCC.out; omega, HK5.out⟩
          case measure => have := HH.out; simp [intOf]; omega
    · obtain rfl : i = j := by omega
      have d0 : decide ((i : Int) < (i : Int)) = false := by simp
      obtain ⟨k0, hk0⟩ : ∃ k0, k0 = i - m := ⟨_, rfl⟩
      obtain ⟨E1, hE1⟩ : ∃ E1, E1 = i - 1 := ⟨_, rfl⟩
      have hkV : k0 ≤ V.length := by have := HB.out; omega
      have hfl := front_law (key := nk) (x := x) HS.out (k := k0) hkV (fun h => by
        obtain ⟨y, h1, h2⟩ := HC1.out (by omega)
        have := HLV.out (k0 - 1) (by omega)
        rw [show m + (k0 - 1) = i - 1 by omega, h1] at this
        injection this with this
        rw [← this]; exact h2) (fun h => by
        have h1 := HC2.out (by have := HB.out; omega)
        have := HLV.out k0 h
        rw [show m + k0 = i by omega] at this
        apply Int.not_lt.1
        intro h2
        exact h1 ⟨_, this, h2⟩)
      have HFL := hide hfl
      have wE : IntKind.i64.wrap ((i : Int) - 1) = (E1 : Int) := by rw [IntWalk.i64_in _ (by have := HB.out; have := HN.out; have := HA.out; have := HM.out; omega)]; have := HM.out; omega
      have hE2 : E1 = a + k0 := by have := HM.out; omega
      have HE2 := hide hE2
      have HKV := hide hkV
      obtain ⟨wb, rfl⟩ : ∃ x, x = wr := ⟨_, rfl⟩
      have HREL2 : Hid (SyA B 37 g N c a k0 P V Q x w (.int .i64 (a : Int)) wb) := hide ⟨0, rfl, by omega, by have h := HOW.out; rw [HL.out] at h; simpa using h, Kf.of HKP.out⟩
      clear hfl hk0 hE1 hkV hE2
      go_wp2
      go_loopw [13] (SyA B 37 g N c a k0 P V Q x w) (fun kv _ => E1 - (intOf kv).toNat)
      case atStart => exact HREL2.out
      case round =>
        clear HREL2
        obtain ⟨t, rfl, htV, ho, hkf⟩ := hrel
        obtain ⟨k, hk⟩ : ∃ k, k = a + t := ⟨_, rfl⟩
        obtain ⟨w5, rfl⟩ : ∃ x, x = wr := ⟨_, rfl⟩
        rw [← hk]
        have HO5 := hide ho
        have HKF := hide hkf
        have HKA := hide hk
        have hNN := HN.out
        have hAA := HA.out
        have hMM := HM.out
        have hBB := HB.out
        have hEE := HE2.out
        have hKK := HKV.out
        by_cases hlt2 : k < E1
        · have d1 : decide (k < E1) = true := decide_eq_true hlt2
          obtain ⟨K1, hK1⟩ : ∃ K1, K1 = k + 1 := ⟨_, rfl⟩
          have htl : t < V.length := by omega
          obtain ⟨y, hy⟩ : ∃ y, y = V[t] := ⟨_, rfl⟩
          have hLL : P ++ (V.take t ++ x :: V.drop t) ++ Q = (P ++ V.take t) ++ x :: y :: (V.drop (t + 1) ++ Q) := by
            rw [List.drop_eq_getElem_cons htl, hy]; simp only [List.append_assoc, List.cons_append]
          have HO6 : Hid (OW w5 B 37 ePair (.slice (some ⟨g, 0, none⟩) N c) ((P ++ V.take t) ++ x :: y :: (V.drop (t + 1) ++ Q))) := hide (hLL ▸ HO5.out)
          have hks : k = (P ++ V.take t).length := by simp; omega
          have hK1s : K1 = (P ++ V.take t).length + 1 := by simp; omega
          have hgx : ((P ++ V.take t) ++ x :: y :: (V.drop (t + 1) ++ Q))[k]? = some x := by rw [hks]; exact (at_next _ _ _ _).1
          have hgz : ((P ++ V.take t) ++ x :: y :: (V.drop (t + 1) ++ Q))[K1]? = some y := by rw [hK1s]; exact (at_next _ _ _ _).2
          have HNX := hide (sw_next2 (P ++ V.take t) x y (V.drop (t + 1) ++ Q) k K1 hks hK1s)
          have HT1 : Hid (P ++ (V.take (t + 1) ++ x :: V.drop (t + 1)) ++ Q = (P ++ V.take t) ++ y :: x :: (V.drop (t + 1) ++ Q)) := hide (by
            rw [List.take_succ_eq_append_getElem htl, ← hy]; simp only [List.append_assoc, List.cons_append, List.nil_append])
          have bk : k < N := by omega
          have bK : K1 < N := by omega
          have hk1 : IntKind.i64.wrap ((k : Int) + 1) = (K1 : Int) := by rw [IntWalk.i64_in _ (by omega)]; omega
          have HTK : Hid (t + 1 ≤ k0) := hide (by omega)
          have HK1 := hide hK1
          clear ho hkf hk hy hLL hks hK1s hK1 hNN hAA hMM hBB hEE hKK htl
          go_wp2_with fail
          obtain ⟨W0, hW0⟩ : ∃ W0, W0 = w5.drew := ⟨_, rfl⟩
          have ho0 : OW W0 B 37 ePair (.slice (some ⟨g, 0, none⟩) N c) ((P ++ V.take t) ++ x :: y :: (V.drop (t + 1) ++ Q)) := by rw [hW0]; exact (HO6.out).drew
          have hof : Kf (fun k => k = g) w5 W0 := by rw [hW0]; exact Kf.of (Kp.refl _).drew
          have ho1 := ho0.setPair k (by have := ho0.len; omega) y
          have LDk := ld_pair ho0 (k := k) (x := x) (by assumption)
          have LDK1 := ld_pair ho0 (k := K1) (x := y) (by assumption)
          have ST1 := st_pair ho0 (k := k) (by have := ho0.len; omega) y
          have ST2 := st_pair ho1 (k := K1) (by have := ho1.len; omega) x
          have Rk := ix_pair N c g k (by omega)
          have RK1 := ix_pair N c g K1 (by omega)
          have HSW := hide (ho0.sw (i := k) (j := K1) (by have := ho0.len; omega) (by have := ho0.len; omega) x y)
          have HKW := hide (Kf.sw (Kf.sw hof (F := fun k => k = g) rfl k y) (F := fun k => k = g) rfl K1 x)
          refine wp_region_tab (by kernel_rfl) [(61, .slice (some ⟨g, 0, none⟩) N c), (62, .int .i64 (k : Int)), (63, .slice (some ⟨g, 0, none⟩) N c), (64, .int .i64 (k : Int)), (65, .int .i64 (K1 : Int)), (66, .slice (some ⟨g, 0, none⟩) N c), (67, .int .i64 (k : Int)), (68, .int .i64 (K1 : Int)), (69, .pointer (some ⟨g, K1 * 2, none⟩)), (70, (pv y)), (71, .slice (some ⟨g, 0, none⟩) N c), (72, .int .i64 (k : Int)), (73, .pointer (some ⟨g, k * 2, none⟩)), (74, (pv x)), (75, .pointer (some ⟨g, k * 2, none⟩)), (76, .pointer (some ⟨g, K1 * 2, none⟩))] (fun _ _ _ => True) (JS W0 (swW1 W0 g k y) (swW1 (swW1 W0 g k y) g K1 x) 15 17 9 13) (by rw [hW0]; exact JS.start (by decide) (by decide)) (by kernel_rfl) (by kernel_rfl) ?_ ?_
          · refine ⟨?_, ?_, ?_, ?_, ?_, ?_, ?_, ?_, ?_, ?_, ?_, ?_, ?_, ?_, ?_, ?_, ?_, ?_, trivial⟩
            · intro hop L a w5 hs hk hl ha keep know spec
              have h0 := keep 0 (.slice (some ⟨g, 0, none⟩) N c) (by kernel_rfl) rfl
              exact wpOp_value hop (wanted_none rfl) (v := .slice (some ⟨g, 0, none⟩) N c) (by simp only [execOp, Act.eval, h0]; rfl) ⟨_, rfl, hk.go (by decide) (by decide), (fun d hd => by injection hd with hd; subst hd; exact ⟨tab rfl, trivial⟩), fun _ _ h => h⟩
            · intro hop L a w5 hs hk hl ha keep know spec
              have h13 := keep 13 (.int .i64 (k : Int)) (by kernel_rfl) rfl
              exact wpOp_value hop (wanted_none rfl) (v := .int .i64 (k : Int)) (by simp only [execOp, Act.eval, h13]; rfl) ⟨_, rfl, hk.go (by decide) (by decide), (fun d hd => by injection hd with hd; subst hd; exact ⟨tab rfl, trivial⟩), fun _ _ h => h⟩
            · intro hop L a w5 hs hk hl ha keep know spec
              have h0 := keep 0 (.slice (some ⟨g, 0, none⟩) N c) (by kernel_rfl) rfl
              exact wpOp_value hop (wanted_none rfl) (v := .slice (some ⟨g, 0, none⟩) N c) (by simp only [execOp, Act.eval, h0]; rfl) ⟨_, rfl, hk.go (by decide) (by decide), (fun d hd => by injection hd with hd; subst hd; exact ⟨tab rfl, trivial⟩), fun _ _ h => h⟩
            · intro hop L a w5 hs hk hl ha keep know spec
              have h13 := keep 13 (.int .i64 (k : Int)) (by kernel_rfl) rfl
              exact wpOp_value hop (wanted_none rfl) (v := .int .i64 (k : Int)) (by simp only [execOp, Act.eval, h13]; rfl) ⟨_, rfl, hk.go (by decide) (by decide), (fun d hd => by injection hd with hd; subst hd; exact ⟨tab rfl, trivial⟩), fun _ _ h => h⟩
            · intro hop L a w5 hs hk hl ha keep know spec
              have h64 := know 64 (.int .i64 (k : Int)) (by kernel_rfl) rfl
              exact wpOp_value hop (wanted_none rfl) (v := .int .i64 (K1 : Int)) (by simp only [execOp, Act.eval, h64]; go_simp; done) ⟨_, rfl, hk.go (by decide) (by decide), (fun d hd => by injection hd with hd; subst hd; exact ⟨tab rfl, trivial⟩), fun _ _ h => h⟩
            · intro hop L a w5 hs hk hl ha keep know spec
              have h0 := keep 0 (.slice (some ⟨g, 0, none⟩) N c) (by kernel_rfl) rfl
              exact wpOp_value hop (wanted_none rfl) (v := .slice (some ⟨g, 0, none⟩) N c) (by simp only [execOp, Act.eval, h0]; rfl) ⟨_, rfl, hk.go (by decide) (by decide), (fun d hd => by injection hd with hd; subst hd; exact ⟨tab rfl, trivial⟩), fun _ _ h => h⟩
            · intro hop L a w5 hs hk hl ha keep know spec
              have h13 := keep 13 (.int .i64 (k : Int)) (by kernel_rfl) rfl
              exact wpOp_value hop (wanted_none rfl) (v := .int .i64 (k : Int)) (by simp only [execOp, Act.eval, h13]; rfl) ⟨_, rfl, hk.go (by decide) (by decide), (fun d hd => by injection hd with hd; subst hd; exact ⟨tab rfl, trivial⟩), fun _ _ h => h⟩
            · intro hop L a w5 hs hk hl ha keep know spec
              have h67 := know 67 (.int .i64 (k : Int)) (by kernel_rfl) rfl
              exact wpOp_value hop (wanted_none rfl) (v := .int .i64 (K1 : Int)) (by simp only [execOp, Act.eval, h67]; go_simp; done) ⟨_, rfl, hk.go (by decide) (by decide), (fun d hd => by injection hd with hd; subst hd; exact ⟨tab rfl, trivial⟩), fun _ _ h => h⟩
            · intro hop L a w5 hs hk hl ha keep know spec
              have h66 := know 66 (.slice (some ⟨g, 0, none⟩) N c) (by kernel_rfl) rfl
              have h68 := know 68 (.int .i64 (K1 : Int)) (by kernel_rfl) rfl
              exact wpOp_value hop (wanted_none rfl) (v := .pointer (some ⟨g, K1 * 2, none⟩)) (by simp only [execOp, Act.eval, h66, h68]; exact run_v (RK1 w5)) ⟨_, rfl, hk.go (by decide) (by decide), (fun d hd => by injection hd with hd; subst hd; exact ⟨tab rfl, trivial⟩), fun _ _ h => h⟩
            · intro hop L a w5 hs hk hl ha keep know spec
              have h69 := know 69 (.pointer (some ⟨g, K1 * 2, none⟩)) (by kernel_rfl) rfl
              have e5 := hk.ld1 hl
              subst e5
              exact wpOp_value hop (wanted_none rfl) (v := (pv y)) (by simp only [execOp, Act.eval, h69]; exact run_v LDK1) ⟨_, rfl, hk.go (by decide) (by decide), (fun d hd => by injection hd with hd; subst hd; exact ⟨tab rfl, trivial⟩), fun _ _ h => h⟩
            · intro hop L a w5 hs hk hl ha keep know spec
              have h0 := keep 0 (.slice (some ⟨g, 0, none⟩) N c) (by kernel_rfl) rfl
              exact wpOp_value hop (wanted_none rfl) (v := .slice (some ⟨g, 0, none⟩) N c) (by simp only [execOp, Act.eval, h0]; rfl) ⟨_, rfl, hk.go (by decide) (by decide), (fun d hd => by injection hd with hd; subst hd; exact ⟨tab rfl, trivial⟩), fun _ _ h => h⟩
            · intro hop L a w5 hs hk hl ha keep know spec
              have h13 := keep 13 (.int .i64 (k : Int)) (by kernel_rfl) rfl
              exact wpOp_value hop (wanted_none rfl) (v := .int .i64 (k : Int)) (by simp only [execOp, Act.eval, h13]; rfl) ⟨_, rfl, hk.go (by decide) (by decide), (fun d hd => by injection hd with hd; subst hd; exact ⟨tab rfl, trivial⟩), fun _ _ h => h⟩
            · intro hop L a w5 hs hk hl ha keep know spec
              have h71 := know 71 (.slice (some ⟨g, 0, none⟩) N c) (by kernel_rfl) rfl
              have h72 := know 72 (.int .i64 (k : Int)) (by kernel_rfl) rfl
              exact wpOp_value hop (wanted_none rfl) (v := .pointer (some ⟨g, k * 2, none⟩)) (by simp only [execOp, Act.eval, h71, h72]; exact run_v (Rk w5)) ⟨_, rfl, hk.go (by decide) (by decide), (fun d hd => by injection hd with hd; subst hd; exact ⟨tab rfl, trivial⟩), fun _ _ h => h⟩
            · intro hop L a w5 hs hk hl ha keep know spec
              have h73 := know 73 (.pointer (some ⟨g, k * 2, none⟩)) (by kernel_rfl) rfl
              have e5 := hk.ld2 hl
              subst e5
              exact wpOp_value hop (wanted_none rfl) (v := (pv x)) (by simp only [execOp, Act.eval, h73]; exact run_v LDk) ⟨_, rfl, hk.go (by decide) (by decide), (fun d hd => by injection hd with hd; subst hd; exact ⟨tab rfl, trivial⟩), fun _ _ h => h⟩
            · intro hop L a w5 hs hk hl ha keep know spec
              have h61 := know 61 (.slice (some ⟨g, 0, none⟩) N c) (by kernel_rfl) rfl
              have h62 := know 62 (.int .i64 (k : Int)) (by kernel_rfl) rfl
              exact wpOp_value hop (wanted_none rfl) (v := .pointer (some ⟨g, k * 2, none⟩)) (by simp only [execOp, Act.eval, h61, h62]; exact run_v (Rk w5)) ⟨_, rfl, hk.go (by decide) (by decide), (fun d hd => by injection hd with hd; subst hd; exact ⟨tab rfl, trivial⟩), fun _ _ h => h⟩
            · intro hop L a w5 hs hk hl ha keep know spec
              have h75 := know 75 (.pointer (some ⟨g, k * 2, none⟩)) (by kernel_rfl) rfl
              have h70 := know 70 ((pv y)) (by kernel_rfl) rfl
              obtain ⟨e5, hk2⟩ := hk.st1 hl (after_done ha (k := 9) (by kernel_rfl)) (after_done ha (k := 13) (by kernel_rfl)) (by decide)
              subst e5
              exact wpOp_skip hop (wanted_none rfl) (by simp only [execOp, Act.eval, h75, h70]; exact run_u ST1) ⟨_, rfl, hk2, (fun d hd => by cases hd), fun _ _ h => h⟩
            · intro hop L a w5 hs hk hl ha keep know spec
              have h63 := know 63 (.slice (some ⟨g, 0, none⟩) N c) (by kernel_rfl) rfl
              have h65 := know 65 (.int .i64 (K1 : Int)) (by kernel_rfl) rfl
              exact wpOp_value hop (wanted_none rfl) (v := .pointer (some ⟨g, K1 * 2, none⟩)) (by simp only [execOp, Act.eval, h63, h65]; exact run_v (RK1 w5)) ⟨_, rfl, hk.go (by decide) (by decide), (fun d hd => by injection hd with hd; subst hd; exact ⟨tab rfl, trivial⟩), fun _ _ h => h⟩
            · intro hop L a w5 hs hk hl ha keep know spec
              have h76 := know 76 (.pointer (some ⟨g, K1 * 2, none⟩)) (by kernel_rfl) rfl
              have h74 := know 74 ((pv x)) (by kernel_rfl) rfl
              obtain ⟨e5, hk2⟩ := hk.st2 hl (after_done ha (k := 15) (by kernel_rfl))
              subst e5
              exact wpOp_skip hop (wanted_none rfl) (by simp only [execOp, Act.eval, h76, h74]; exact run_u ST2) ⟨_, rfl, hk2, (fun d hd => by cases hd), fun _ _ h => h⟩
          · intro a' w6 e1 e2 hk keep know spec
            obtain ⟨tm, df⟩ := a'
            obtain ⟨f, hf⟩ := frame_puts (D := [61, 62, 63, 64, 65, 66, 67, 68, 69, 70, 71, 72, 73, 74, 75, 76]) e2 keep
            have e1' : df = [] := e1
            have e6 := hk.done (n := 18) (by decide) (by decide)
            clear keep know spec e1 e2 hk
            simp only [List.foldl_cons, List.foldl_nil] at hf
            subst e1'
            subst e6
            rw [hf]
            clear hf
            clear LDk LDK1 ST1 ST2 Rk RK1 ho0 ho1 hof hgx hgz hW0
            go_wp2
            go_roundw
            case rel => exact ⟨t + 1, by have := HK1.out; have := HKA.out; congr 1; omega, HTK.out, by have h := HSW.out; rw [HNX.out, ← HT1.out] at h; exact h, HKF.out.trans HKW.out (fun _ _ h => h)⟩
            case measure => have := HK1.out; simp [intOf]; omega
        · have d1 : decide (k < E1) = false := decide_eq_false hlt2
          have htk : t = k0 := by omega
          subst htk
          have HFO := hide ho
          clear ho hkf hk hNN hAA hMM hBB hEE hKK
          go_wp2
          exact bodyPost_ret (v := .tuple #[]) (by simp [results, Try.results43, go_sem]) rfl ⟨rfl, _, ⟨HFL.out.1, HFL.out.2, by simp; have := HKV.out; omega⟩, HFO.out, HKF.out⟩
end Go.Proofs.Ythbapflabjogkaa
