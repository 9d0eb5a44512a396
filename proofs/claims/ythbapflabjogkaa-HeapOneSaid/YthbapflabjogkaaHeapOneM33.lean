/-
  slices.symMergeCmpFunc at spots: what it leaves of two sorted parts, of whatever length. Conditions: the row is the call's own (OW).
-/
import Derived.Test.YthbapflabjogkaaHeapOneM32

namespace Go.Proofs.Ythbapflabjogkaa
open Go.ChangeShapes Go.WideShapes Go.ChangeAt Go.RowKit
set_option linter.unusedVariables false
set_option linter.unusedSimpArgs false

theorem srt_refl {S : List IP} (h : SortedK nk S) : Srt nk S S := ⟨h, StabEq.refl _, rfl⟩
/-- What the cut of both parts says. -/
theorem sym_cut {U V : List IP} (hU : SortedK nk U) (hV : SortedK nk V) {i j : Nat} (hi : i ≤ U.length) (hj : j ≤ V.length)
    (h2 : ∀ (h1 : 0 < i) (h2 : j < V.length), nk (U[i - 1]'(by omega)) ≤ nk V[j]) (h1 : ∀ (h1 : i < U.length) (h2 : 0 < j), nk (V[j - 1]'(by omega)) < nk U[i])
    {A B : List IP} (hA : Srt nk (U.take i ++ V.take j) A) (hB : Srt nk (U.drop i ++ V.drop j) B) : Srt nk (U ++ V) (A ++ B) := by
  have e1 : U.take i ++ U.drop i = U := List.take_append_drop _ _
  have e2 : V.take j ++ V.drop j = V := List.take_append_drop _ _
  have hm := merge_law (key := nk) (X1 := U.take i) (X2 := U.drop i) (Y1 := V.take j) (Y2 := V.drop j) (A := A) (B := B) (by rw [e1]; exact hU) (by rw [e2]; exact hV)
    (fun a ha b hb => by
      obtain ⟨p, hp, rfl⟩ := List.getElem_of_mem ha
      obtain ⟨q, hq, rfl⟩ := List.getElem_of_mem hb
      simp at hp hq
      rw [List.getElem_drop, List.getElem_take]
      have a1 := sorted_le hU (i := i) (j := i + p) (by omega) (by omega) (by omega)
      have a2 := sorted_le hV (i := q) (j := j - 1) (by omega) (by omega) (by omega)
      have a3 := h1 (by omega) (by omega)
      omega)
    (fun a ha b hb => by
      obtain ⟨p, hp, rfl⟩ := List.getElem_of_mem ha
      obtain ⟨q, hq, rfl⟩ := List.getElem_of_mem hb
      simp at hp hq
      rw [List.getElem_drop, List.getElem_take]
      have a1 := sorted_le hU (i := p) (j := i - 1) (by omega) (by omega) (by omega)
      have a2 := sorted_le hV (i := j) (j := j + q) (by omega) (by omega) (by omega)
      have a3 := h2 (by omega) (by omega)
      omega) hA.1 hA.2.1 hB.1 hB.2.1
  rw [e1, e2] at hm
  refine ⟨hm.1, hm.2, ?_⟩
  have l1 := hA.2.2
  have l2 := hB.2.2
  simp only [List.length_append, List.length_take, List.length_drop] at l1 l2 ⊢
  omega
set_option maxRecDepth 100000 in
set_option maxHeartbeats 32000000 in
theorem symC_any (n0 : Nat) (IH : SymGoal n0) (P U V Q : List IP) (a m b N c g B : Nat) (w : World) (hsz : U.length + V.length ≤ n0 + 1) (ha : a = P.length) (hm : m = a + U.length) (hb : b = m + V.length) (hU : 1 < U.length) (hV : 1 < V.length) (hn : N ≤ 1000) (hsU : SortedK nk U) (hsV : SortedK nk V)
    (ho : OW w B 37 ePair (.slice (some ⟨g, 0, none⟩) N c) (P ++ (U ++ V) ++ Q)) :
    Calls Try.prog 43 #[.slice (some ⟨g, 0, none⟩) N c, .int .i64 (a : Int), .int .i64 (m : Int), .int .i64 (b : Int), .func (.func 21) #[] #[]] w (SgPost B 37 g N c P Q (Srt nk (U ++ V)) w) := by
  have hNl : N = P.length + U.length + V.length + Q.length := by rw [ho.len]; simp only [List.length_append]; omega
  obtain ⟨D1, hD1⟩ : ∃ D1, D1 = m - a := ⟨_, rfl⟩
  have w1 : IntKind.i64.wrap ((m : Int) - (a : Int)) = (D1 : Int) := by rw [IntWalk.i64_in _ (by omega)]; omega
  have w1' : ((D1 : Int) == 1) = false := beq_eq_false_iff_ne.2 (by omega)
  obtain ⟨D2, hD2⟩ : ∃ D1, D1 = b - m := ⟨_, rfl⟩
  have w2 : IntKind.i64.wrap ((b : Int) - (m : Int)) = (D2 : Int) := by rw [IntWalk.i64_in _ (by omega)]; omega
  have w2' : ((D2 : Int) == 1) = false := beq_eq_false_iff_ne.2 (by omega)
  obtain ⟨mid, hmid⟩ : ∃ h, h = (a + b) / 2 := ⟨_, rfl⟩
  have h63 : a + b ≤ 1000000 := by omega
  have hH : ((a : Int) + (b : Int)) / 2 = (mid : Int) := by omega
  obtain ⟨nn, hnn⟩ : ∃ h, h = mid + m := ⟨_, rfl⟩
  have w3 : IntKind.i64.wrap ((mid : Int) + (m : Int)) = (nn : Int) := by rw [IntWalk.i64_in _ (by omega)]; omega
  obtain ⟨p, hp⟩ : ∃ h, h = nn - 1 := ⟨_, rfl⟩
  have w4 : IntKind.i64.wrap ((nn : Int) - 1) = (p : Int) := by rw [IntWalk.i64_in _ (by omega)]; omega
  obtain ⟨L, hL⟩ : ∃ L, L = P ++ (U ++ V) ++ Q := ⟨_, rfl⟩
  have hLU : ∀ k (h : k < U.length), L[a + k]? = some U[k] := fun k h => by
    rw [hL, List.append_assoc, List.getElem?_append_right (by omega), show a + k - P.length = k by omega, List.append_assoc, List.getElem?_append_left h, List.getElem?_eq_getElem h]
  have hLV : ∀ k (h : k < V.length), L[m + k]? = some V[k] := fun k h => by
    rw [hL, List.append_assoc, List.getElem?_append_right (by omega), List.append_assoc, List.getElem?_append_right (by omega), show m + k - P.length - U.length = k by omega, List.getElem?_append_left h, List.getElem?_eq_getElem h]
  have hLl : L.length = N := by rw [hL]; exact ho.len.symm
  rw [← hL] at ho
  have HL := hide hL
  have HLU := hide hLU
  have HLV := hide hLV
  have HLL := hide hLl
  have HO := hide ho
  have HA := hide ha
  have HM := hide hm
  have HB := hide hb
  have HN := hide hNl
  have HSU := hide hsU
  have HSV := hide hsV
  have HMID := hide hmid
  have HNN := hide hnn
  have HP := hide hp
  have HIH := hide IH
  have HSZ := hide hsz
  have HU1 := hide (And.intro hU hV)
  by_cases hbr : mid < m
  · have d0 : decide (mid < m) = true := decide_eq_true hbr
    obtain ⟨s0, hs0⟩ : ∃ h, h = nn - b := ⟨_, rfl⟩
    have w5 : IntKind.i64.wrap ((nn : Int) - (b : Int)) = (s0 : Int) := by rw [IntWalk.i64_in _ (by omega)]; omega
    have HR0 : Hid (a ≤ s0 ∧ s0 ≤ mid ∧ mid ≤ m ∧ m ≤ nn - mid ∧ nn - s0 ≤ b ∧ nn - s0 = b ∧ nn - mid = m) := hide (by omega)
    have HEX : Hid (∀ s en, en = nn - s → (s = s0 → a < s → en < b → False) ∧ (s = mid → s < m → m < en → False)) := hide (fun s en h => by omega)
    have HREL : Hid (BsR (fun k => ∃ u v, L[p - k]? = some u ∧ L[k]? = some v ∧ nk v ≤ nk u) s0 mid w (.int .i64 (s0 : Int)) (.int .i64 (mid : Int)) w) := hide ⟨s0, mid, by omega, by omega, by omega, rfl, rfl, fun h => by omega, fun h => by omega, Kp.refl _⟩
    clear ho ha hm hb hNl hsU hsV hL hLU hLV hLl hU hV hD1 hD2 hmid hnn hp hbr hs0 IH hsz
    go_enter Try.func43, Try.ntmps43
    go_wp2
    go_loopw [20, 21] (BsR (fun k => ∃ u v, L[p - k]? = some u ∧ L[k]? = some v ∧ nk v ≤ nk u) s0 mid w) (fun i j _ => (intOf j - intOf i).toNat)
    case atStart => exact HREL.out
    case round =>
      clear HREL
      obtain ⟨i, j, hmi, hij, hjb, rfl, rfl, hc1, hc2, hkp⟩ := hrel
      have HC1 := hide hc1
      have HC2 := hide hc2
      have HKP := hide hkp
      have HOW := hide (HO.out.kp hkp)
      clear hc1 hc2 hkp
      by_cases hlt : i < j
      · have d9 : decide ((i : Int) < (j : Int)) = true := by simp; omega
        obtain ⟨h, hh⟩ : ∃ h, h = (i + j) / 2 := ⟨_, rfl⟩
        obtain ⟨h', hh'⟩ : ∃ h', h' = p - h := ⟨_, rfl⟩
        have h64 : i + j ≤ 1000000 := by have := HM.out; have := HB.out; have := HN.out; have := HA.out; have := HR0.out; omega
        have hH2 : ((i : Int) + (j : Int)) / 2 = (h : Int) := by omega
        have hhN : h < N := by have := HM.out; have := HB.out; have := HN.out; have := HA.out; have := HR0.out; omega
        have hpN : h' < N := by have := HM.out; have := HB.out; have := HN.out; have := HA.out; have := HR0.out; have := HP.out; have := HNN.out; omega
        have hw : IntKind.i64.wrap ((p : Int) - (h : Int)) = (h' : Int) := by rw [IntWalk.i64_in _ (by omega)]; have := HM.out; have := HB.out; have := HN.out; have := HA.out; have := HR0.out; have := HP.out; have := HNN.out; omega
        obtain ⟨v, hv⟩ : ∃ y, y = L[h]'(by have := HLL.out; omega) := ⟨_, rfl⟩
        obtain ⟨u, hu⟩ : ∃ y, y = L[h']'(by have := HLL.out; omega) := ⟨_, rfl⟩
        have hLh : L[h]? = some v := by rw [hv]; exact List.getElem?_eq_getElem _
        have hLp : L[h']? = some u := by rw [hu]; exact List.getElem?_eq_getElem _
        have HH := hide hh
        have HH' := hide hh'
        have HVL := hide hLh
        have HUL := hide hLp
        clear hh hh' hu hv hLh hLp
        by_cases hc : nk u < nk v
        · have HCC := hide hc
          have t3 : decide (cmp3 (nk u) (nk v) < 0) = true := by rw [cmp3_neg]; simpa using hc
          have t3' : (cmp3 (nk u) (nk v) < 0) = (true = true) := by have := t3; simp at this; simp; omega
          have px := HOW.out.pairAt? HUL.out
          have pz := HOW.out.pairAt? HVL.out
          obtain ⟨x0, x1, _, _⟩ := px
          obtain ⟨z0, z1, _, _⟩ := pz
          have i0 : (0 : Int) ≤ (h' : Int) := by omega
          have i1 : (h' : Int) < (N : Int) := by omega
          have i2 : (0 : Int) ≤ (h : Int) := by omega
          have i3 : (h : Int) < (N : Int) := by omega
          have KS : Hid (∀ W', Kp wr W' → (W'.cell? ⟨g, h' * 2, none⟩ = some (.int .i64 u.1) ∧ W'.cell? ⟨g, h' * 2 + 1, none⟩ = some (.int .i64 u.2) ∧ W'.cell? ⟨g, h * 2, none⟩ = some (.int .i64 v.1) ∧ W'.cell? ⟨g, h * 2 + 1, none⟩ = some (.int .i64 v.2) ∧ Kp wr W')) := hide fun W' h => ⟨h.cell x0, h.cell x1, h.cell z0, h.cell z1, h⟩
          have KD0 := Kp.refl wr
          have KD1 := KD0.drew
          go_wp2_with fail
          go_region_held3 (fun w' => w'.cell? ⟨g, h' * 2, none⟩ = some (.int .i64 u.1) ∧ w'.cell? ⟨g, h' * 2 + 1, none⟩ = some (.int .i64 u.2) ∧ w'.cell? ⟨g, h * 2, none⟩ = some (.int .i64 v.1) ∧ w'.cell? ⟨g, h * 2 + 1, none⟩ = some (.int .i64 v.2) ∧ Kp wr w') ((go_split_ands; refine KS.out _ ?_; (focus ((repeat (first | (with_reducible assumption) | (with_reducible exact Kp.refl _) | (with_reducible apply Kp.drew) | (with_reducible apply Kp.drewN) | ((with_reducible apply Kp.setR); (focus (first | (with_reducible assumption) | (simp; done) | (simp; omega)))) | (with_reducible apply Kp.alloc) | ((with_reducible apply Kp.call); (with_reducible assumption)) | ((with_reducible apply Kp.app); (with_reducible assumption)))); done))))
            (first
              | (go_at_call 21; refine (ord_any u v _).mono ?_; rintro e w5 ⟨rfl, hb5⟩))
          all_goals
            have k5 : Kp wr w5 := by go_split_ands; (focus ((repeat (first | (with_reducible assumption) | (with_reducible exact Kp.refl _) | (with_reducible apply Kp.drew) | (with_reducible apply Kp.drewN) | ((with_reducible apply Kp.setR); (focus (first | (with_reducible assumption) | (simp; done) | (simp; omega)))) | (with_reducible apply Kp.alloc) | ((with_reducible apply Kp.call); (with_reducible assumption)) | ((with_reducible apply Kp.app); (with_reducible assumption)))); done))
            have HK5 := hide (HKP.out.trans k5)
            clear KS KD0 KD1 x0 x1 z0 z1 k5 hb5
            clear hc
            go_wp2
            go_roundw
            case rel => exact ⟨i, h, hmi, by have := HH.out; omega, by have := HH.out; omega, rfl, rfl, HC1.out, fun _ ⟨u', v', h1, h2, h3⟩ => by
              rw [← HH'.out, HUL.out] at h1; injection h1 with h1; subst h1
              rw [HVL.out] at h2; injection h2 with h2; subst h2
              have := HCC.out; omega, HK5.out⟩
            case measure => have := HH.out; simp [intOf]; omega
        · have HCC := hide hc
          have t3 : decide (cmp3 (nk u) (nk v) < 0) = false := by rw [cmp3_neg]; simpa using hc
          have t3' : (cmp3 (nk u) (nk v) < 0) = (false = true) := by have := t3; simp at this; simp; omega
          have px := HOW.out.pairAt? HUL.out
          have pz := HOW.out.pairAt? HVL.out
          obtain ⟨x0, x1, _, _⟩ := px
          obtain ⟨z0, z1, _, _⟩ := pz
          have i0 : (0 : Int) ≤ (h' : Int) := by omega
          have i1 : (h' : Int) < (N : Int) := by omega
          have i2 : (0 : Int) ≤ (h : Int) := by omega
          have i3 : (h : Int) < (N : Int) := by omega
          have KS : Hid (∀ W', Kp wr W' → (W'.cell? ⟨g, h' * 2, none⟩ = some (.int .i64 u.1) ∧ W'.cell? ⟨g, h' * 2 + 1, none⟩ = some (.int .i64 u.2) ∧ W'.cell? ⟨g, h * 2, none⟩ = some (.int .i64 v.1) ∧ W'.cell? ⟨g, h * 2 + 1, none⟩ = some (.int .i64 v.2) ∧ Kp wr W')) := hide fun W' h => ⟨h.cell x0, h.cell x1, h.cell z0, h.cell z1, h⟩
          have KD0 := Kp.refl wr
          have KD1 := KD0.drew
          go_wp2_with fail
          go_region_held3 (fun w' => w'.cell? ⟨g, h' * 2, none⟩ = some (.int .i64 u.1) ∧ w'.cell? ⟨g, h' * 2 + 1, none⟩ = some (.int .i64 u.2) ∧ w'.cell? ⟨g, h * 2, none⟩ = some (.int .i64 v.1) ∧ w'.cell? ⟨g, h * 2 + 1, none⟩ = some (.int .i64 v.2) ∧ Kp wr w') ((go_split_ands; refine KS.out _ ?_; (focus ((repeat (first | (with_reducible assumption) | (with_reducible exact Kp.refl _) | (with_reducible apply Kp.drew) | (with_reducible apply Kp.drewN) | ((with_reducible apply Kp.setR); (focus (first | (with_reducible assumption) | (simp; done) | (simp; omega)))) | (with_reducible apply Kp.alloc) | ((with_reducible apply Kp.call); (with_reducible assumption)) | ((with_reducible apply Kp.app); (with_reducible assumption)))); done))))
            (first
              | (go_at_call 21; refine (ord_any u v _).mono ?_; rintro e w5 ⟨rfl, hb5⟩))
          all_goals
            have k5 : Kp wr w5 := by go_split_ands; (focus ((repeat (first | (with_reducible assumption) | (with_reducible exact Kp.refl _) | (with_reducible apply Kp.drew) | (with_reducible apply Kp.drewN) | ((with_reducible apply Kp.setR); (focus (first | (with_reducible assumption) | (simp; done) | (simp; omega)))) | (with_reducible apply Kp.alloc) | ((with_reducible apply Kp.call); (with_reducible assumption)) | ((with_reducible apply Kp.app); (with_reducible assumption)))); done))
            have HK5 := hide (HKP.out.trans k5)
            clear KS KD0 KD1 x0 x1 z0 z1 k5 hb5
            clear hc
            go_wp2
            go_roundw
            case rel => exact ⟨h + 1, j, by have := HH.out; omega, by have := HH.out; omega, hjb, by go_num, rfl, fun _ => ⟨u, v, by rw [Nat.add_sub_cancel, ← HH'.out]; exact HUL.out, HVL.out, by have := HCC.out; omega⟩, HC2.out, HK5.out⟩
            case measure => have := HH.out; simp [intOf]; omega
      · obtain rfl : i = j := by omega
        have d9 : decide ((i : Int) < (i : Int)) = false := by simp
        obtain ⟨en, hen⟩ : ∃ en, en = nn - i := ⟨_, rfl⟩
        have wEN : IntKind.i64.wrap ((nn : Int) - (i : Int)) = (en : Int) := by rw [IntWalk.i64_in _ (by have := HM.out; have := HB.out; have := HN.out; have := HA.out; have := HR0.out; have := HNN.out; omega)]; have := HM.out; have := HB.out; have := HN.out; have := HA.out; have := HR0.out; have := HNN.out; omega
        have hB1 : a ≤ i ∧ i ≤ m ∧ m ≤ en ∧ en ≤ b ∧ i ≤ mid ∧ mid ≤ en ∧ mid + m = i + en := by have := HR0.out; have := HNN.out; omega
        have hcut : ∀ A B : List IP, Srt nk (U.take (i - a) ++ V.take (en - m)) A → Srt nk (U.drop (i - a) ++ V.drop (en - m)) B → Srt nk (U ++ V) (A ++ B) := fun A B h1 h2 => by
          have hMM := HM.out
          have hBB := HB.out
          refine sym_cut HSU.out HSV.out (i := i - a) (j := en - m) (by omega) (by omega) (fun g1 g2 => ?_) (fun g1 g2 => ?_) h1 h2
          · have hs : s0 < i := by
              have := (HEX.out i en hen).1
              rcases Nat.lt_or_ge s0 i with h | h
              · exact h
              · exact absurd (this (by omega) (by omega) (by omega)) id
            obtain ⟨u, v, e1, e2, e3⟩ := HC1.out hs
            have f1 := HLU.out (i - a - 1) (by omega)
            have f2 := HLV.out (en - m) g2
            rw [show a + (i - a - 1) = i - 1 by omega, e2] at f1
            rw [show m + (en - m) = p - (i - 1) by have := HP.out; omega, e1] at f2
            injection f1 with f1
            injection f2 with f2
            rw [← f1, ← f2]; exact e3
          · have hs : i < mid := by
              have := (HEX.out i en hen).2
              rcases Nat.lt_or_ge i mid with h | h
              · exact h
              · exact absurd (this (by omega) (by omega) (by omega)) id
            have e1 := HC2.out hs
            have f1 := HLU.out (i - a) g1
            have f2 := HLV.out (en - m - 1) (by omega)
            rw [show a + (i - a) = i by omega] at f1
            rw [show m + (en - m - 1) = p - i by have := HP.out; omega] at f2
            apply Decidable.byContradiction
            intro h
            exact e1 ⟨_, _, f2, f1, by omega⟩
        have HCUT := hide hcut
        have HB1 := hide hB1
        have HEN := hide hen
        have HBL := hide (show (U.take (i - a)).length = i - a ∧ (U.drop (i - a)).length = m - i ∧ (V.take (en - m)).length = en - m ∧ (V.drop (en - m)).length = b - en by
          have := HM.out; have := HB.out
          simp only [List.length_take, List.length_drop]; omega)
        obtain ⟨wb, rfl⟩ : ∃ x, x = wr := ⟨_, rfl⟩
        have HOB : Hid (OW wb B 37 ePair (.slice (some ⟨g, 0, none⟩) N c) (P ++ U.take (i - a) ++ U.drop (i - a) ++ V.take (en - m) ++ (V.drop (en - m) ++ Q))) := hide (by
          have h := HOW.out
          rw [HL.out] at h
          have e1 : U.take (i - a) ++ U.drop (i - a) = U := List.take_append_drop _ _
          have e2 : V.take (en - m) ++ V.drop (en - m) = V := List.take_append_drop _ _
          have e3 : P ++ U.take (i - a) ++ U.drop (i - a) ++ V.take (en - m) ++ (V.drop (en - m) ++ Q) = P ++ ((U.take (i - a) ++ U.drop (i - a)) ++ (V.take (en - m) ++ V.drop (en - m))) ++ Q := by simp only [List.append_assoc]
          rw [e3, e1, e2]; exact h)
        have HKB := hide (Kf.of (F := fun k => k = g) HKP.out)
        clear hcut hB1 hen HOW HC1 HC2
        by_cases hr : i < m
        · have d5 : decide (i < m) = true := decide_eq_true hr
          by_cases hr2 : m < en
          · have d6 : decide (m < en) = true := decide_eq_true hr2
            have HRO := hide (fun fv => rotate_any (P ++ U.take (i - a)) (U.drop (i - a)) (V.take (en - m)) (V.drop (en - m) ++ Q) i m en N c g B fv wb (by have := HBL.out; have := HA.out; have := HB1.out; simp only [List.length_append]; omega) (by have := HBL.out; have := HB1.out; omega) (by have := HBL.out; have := HB1.out; omega) (by have := HBL.out; omega) (by have := HBL.out; omega) hn HOB.out)
            clear hr hr2
            go_wp2_with fail
            with_reducible refine (HRO.out _).mono ?_
            rintro e w6 ⟨rfl, ho6, hk6⟩
            have HO6 : Hid (OW w6 B 37 ePair (.slice (some ⟨g, 0, none⟩) N c) (P ++ (U.take (i - a) ++ V.take (en - m)) ++ (U.drop (i - a) ++ V.drop (en - m)) ++ Q)) := hide (by simpa only [List.append_assoc] using ho6)
            have HK6 := hide (HKB.out.trans hk6 (fun _ _ h => h))
            clear ho6 hk6
            obtain ⟨wc, rfl⟩ : ∃ x, x = w6 := ⟨_, rfl⟩
            by_cases hl : a < i
            · have d7 : decide (a < i) = true := decide_eq_true hl
              by_cases hl2 : i < mid
              · have d8 : decide (i < mid) = true := decide_eq_true hl2
                have HLE := hide (HIH.out P (U.take (i - a)) (V.take (en - m)) ((U.drop (i - a) ++ V.drop (en - m)) ++ Q) a i mid N c g B wc
                  (by have := HBL.out; have := HB1.out; have := HSZ.out; have := HM.out; have := HB.out; have := HMID.out; have := HU1.out; omega) HA.out (by have := HBL.out; have := HB1.out; omega) (by have := HBL.out; have := HB1.out; omega)
                  (by have := HBL.out; omega) (by have := HBL.out; have := HB1.out; omega) hn (sorted_cut HSU.out (by have := HB1.out; have := HM.out; omega)).1 (sorted_cut HSV.out (by have := HB1.out; have := HB.out; omega)).1 (by simpa only [List.append_assoc] using HO6.out))
                clear hl hl2
                go_wp2_with fail
                with_reducible refine HLE.out.mono ?_
                rintro e w7 ⟨rfl, A, hsa, ho7, hk7⟩
                have HSA := hide hsa
                have HO7 := hide ho7
                have HK7 := hide (HK6.out.trans hk7 (fun _ _ h => h))
                clear hsa ho7 hk7
                obtain ⟨wd, rfl⟩ : ∃ x, x = w7 := ⟨_, rfl⟩
                have HAL : Hid ((P ++ A).length = mid) := hide (by
                  have h1 := HSA.out.2.2
                  have h2 := HBL.out
                  have h3 := HB1.out
                  have h4 := HA.out
                  simp only [List.length_append] at h1 ⊢
                  omega)
                by_cases hq : mid < en
                · have d10 : decide (mid < en) = true := decide_eq_true hq
                  by_cases hq2 : en < b
                  · have d11 : decide (en < b) = true := decide_eq_true hq2
                    have HRI := hide (HIH.out (P ++ A) (U.drop (i - a)) (V.drop (en - m)) Q mid en b N c g B wd
                      (by have := HBL.out; have := HB1.out; have := HSZ.out; have := HM.out; have := HB.out; have := HMID.out; have := HU1.out; omega) HAL.out.symm (by have := HBL.out; have := HB1.out; omega) (by have := HBL.out; have := HB1.out; omega)
                      (by have := HBL.out; have := HB1.out; omega) (by have := HBL.out; have := HB1.out; omega) hn (sorted_cut HSU.out (by have := HB1.out; have := HM.out; omega)).2 (sorted_cut HSV.out (by have := HB1.out; have := HB.out; omega)).2 (by simpa only [List.append_assoc] using HO7.out))
                    clear hq hq2
                    go_wp2_with fail
                    with_reducible refine HRI.out.mono ?_
                    rintro e w8 ⟨rfl, A2, hsb, ho8, hk8⟩
                    have HSB := hide hsb
                    have HO8 := hide ho8
                    have HK8 := hide (HK7.out.trans hk8 (fun _ _ h => h))
                    clear hsb ho8 hk8
                    go_wp2
                    exact bodyPost_ret (v := .tuple #[]) (by simp [results, Try.results43, go_sem]) rfl ⟨rfl, A ++ A2, HCUT.out A A2 HSA.out HSB.out, by simpa only [List.append_assoc] using HO8.out, HK8.out⟩
                  · have d11 : decide (en < b) = false := decide_eq_false hq2
                    have HSB : Hid (Srt nk (U.drop (i - a) ++ V.drop (en - m)) (U.drop (i - a) ++ V.drop (en - m))) := hide (by
                      have e : V.drop (en - m) = [] := List.eq_nil_of_length_eq_zero (by have := HBL.out; have := HB1.out; omega)
                      rw [e, List.append_nil]
                      exact srt_refl (sorted_cut HSU.out (by have := HB1.out; have := HM.out; omega)).2)
                    clear hq hq2
                    go_wp2
                    exact bodyPost_ret (v := .tuple #[]) (by simp [results, Try.results43, go_sem]) rfl ⟨rfl, A ++ (U.drop (i - a) ++ V.drop (en - m)), HCUT.out A _ HSA.out HSB.out, by simpa only [List.append_assoc] using HO7.out, HK7.out⟩
                · have d10 : decide (mid < en) = false := decide_eq_false hq
                  have HSB : Hid (Srt nk (U.drop (i - a) ++ V.drop (en - m)) (U.drop (i - a) ++ V.drop (en - m))) := hide (by
                    have e : U.drop (i - a) = [] := List.eq_nil_of_length_eq_zero (by have := HBL.out; have := HB1.out; omega)
                    rw [e, List.nil_append]
                    exact srt_refl (sorted_cut HSV.out (by have := HB1.out; have := HB.out; omega)).2)
                  clear hq
                  go_wp2
                  exact bodyPost_ret (v := .tuple #[]) (by simp [results, Try.results43, go_sem]) rfl ⟨rfl, A ++ (U.drop (i - a) ++ V.drop (en - m)), HCUT.out A _ HSA.out HSB.out, by simpa only [List.append_assoc] using HO7.out, HK7.out⟩
              · have d8 : decide (i < mid) = false := decide_eq_false hl2
                obtain ⟨A, hA⟩ : ∃ A, A = U.take (i - a) ++ V.take (en - m) := ⟨_, rfl⟩
                have HSA : Hid (Srt nk (U.take (i - a) ++ V.take (en - m)) A) := hide (by
                  have e : V.take (en - m) = [] := List.eq_nil_of_length_eq_zero (by have := HBL.out; have := HB1.out; omega)
                  rw [hA, e, List.append_nil]
                  exact srt_refl (sorted_cut HSU.out (by have := HB1.out; have := HM.out; omega)).1)
                have HO7 : Hid (OW wc B 37 ePair (.slice (some ⟨g, 0, none⟩) N c) (P ++ A ++ ((U.drop (i - a) ++ V.drop (en - m)) ++ Q))) := hide (by rw [hA]; simpa only [List.append_assoc] using HO6.out)
                have HK7 := HK6
                clear hl hl2 hA
                obtain ⟨wd, rfl⟩ : ∃ x, x = wc := ⟨_, rfl⟩
                have HAL : Hid ((P ++ A).length = mid) := hide (by
                  have h1 := HSA.out.2.2
                  have h2 := HBL.out
                  have h3 := HB1.out
                  have h4 := HA.out
                  simp only [List.length_append] at h1 ⊢
                  omega)
                by_cases hq : mid < en
                · have d10 : decide (mid < en) = true := decide_eq_true hq
                  by_cases hq2 : en < b
                  · have d11 : decide (en < b) = true := decide_eq_true hq2
                    have HRI := hide (HIH.out (P ++ A) (U.drop (i - a)) (V.drop (en - m)) Q mid en b N c g B wd
                      (by have := HBL.out; have := HB1.out; have := HSZ.out; have := HM.out; have := HB.out; have := HMID.out; have := HU1.out; omega) HAL.out.symm (by have := HBL.out; have := HB1.out; omega) (by have := HBL.out; have := HB1.out; omega)
                      (by have := HBL.out; have := HB1.out; omega) (by have := HBL.out; have := HB1.out; omega) hn (sorted_cut HSU.out (by have := HB1.out; have := HM.out; omega)).2 (sorted_cut HSV.out (by have := HB1.out; have := HB.out; omega)).2 (by simpa only [List.append_assoc] using HO7.out))
                    clear hq hq2
                    go_wp2_with fail
                    with_reducible refine HRI.out.mono ?_
                    rintro e w8 ⟨rfl, A2, hsb, ho8, hk8⟩
                    have HSB := hide hsb
                    have HO8 := hide ho8
                    have HK8 := hide (HK7.out.trans hk8 (fun _ _ h => h))
                    clear hsb ho8 hk8
                    go_wp2
                    exact bodyPost_ret (v := .tuple #[]) (by simp [results, Try.results43, go_sem]) rfl ⟨rfl, A ++ A2, HCUT.out A A2 HSA.out HSB.out, by simpa only [List.append_assoc] using HO8.out, HK8.out⟩
                  · have d11 : decide (en < b) = false := decide_eq_false hq2
                    have HSB : Hid (Srt nk (U.drop (i - a) ++ V.drop (en - m)) (U.drop (i - a) ++ V.drop (en - m))) := hide (by
                      have e : V.drop (en - m) = [] := List.eq_nil_of_length_eq_zero (by have := HBL.out; have := HB1.out; omega)
                      rw [e, List.append_nil]
                      exact srt_refl (sorted_cut HSU.out (by have := HB1.out; have := HM.out; omega)).2)
                    clear hq hq2
                    go_wp2
                    exact bodyPost_ret (v := .tuple #[]) (by simp [results, Try.results43, go_sem]) rfl ⟨rfl, A ++ (U.drop (i - a) ++ V.drop (en - m)), HCUT.out A _ HSA.out HSB.out, by simpa only [List.append_assoc] using HO7.out, HK7.out⟩
                · have d10 : decide (mid < en) = false := decide_eq_false hq
                  have HSB : Hid (Srt nk (U.drop (i - a) ++ V.drop (en - m)) (U.drop (i - a) ++ V.drop (en - m))) := hide (by
                    have e : U.drop (i - a) = [] := List.eq_nil_of_length_eq_zero (by have := HBL.out; have := HB1.out; omega)
                    rw [e, List.nil_append]
                    exact srt_refl (sorted_cut HSV.out (by have := HB1.out; have := HB.out; omega)).2)
                  clear hq
                  go_wp2
                  exact bodyPost_ret (v := .tuple #[]) (by simp [results, Try.results43, go_sem]) rfl ⟨rfl, A ++ (U.drop (i - a) ++ V.drop (en - m)), HCUT.out A _ HSA.out HSB.out, by simpa only [List.append_assoc] using HO7.out, HK7.out⟩
            · have d7 : decide (a < i) = false := decide_eq_false hl
              obtain ⟨A, hA⟩ : ∃ A, A = U.take (i - a) ++ V.take (en - m) := ⟨_, rfl⟩
              have HSA : Hid (Srt nk (U.take (i - a) ++ V.take (en - m)) A) := hide (by
                have e : U.take (i - a) = [] := List.eq_nil_of_length_eq_zero (by have := HBL.out; have := HB1.out; omega)
                rw [hA, e, List.nil_append]
                exact srt_refl (sorted_cut HSV.out (by have := HB1.out; have := HB.out; omega)).1)
              have HO7 : Hid (OW wc B 37 ePair (.slice (some ⟨g, 0, none⟩) N c) (P ++ A ++ ((U.drop (i - a) ++ V.drop (en - m)) ++ Q))) := hide (by rw [hA]; simpa only [List.append_assoc] using HO6.out)
              have HK7 := HK6
              clear hl hA
              obtain ⟨wd, rfl⟩ : ∃ x, x = wc := ⟨_, rfl⟩
              have HAL : Hid ((P ++ A).length = mid) := hide (by
                have h1 := HSA.out.2.2
                have h2 := HBL.out
                have h3 := HB1.out
                have h4 := HA.out
                simp only [List.length_append] at h1 ⊢
                omega)
              by_cases hq : mid < en
              · have d10 : decide (mid < en) = true := decide_eq_true hq
                by_cases hq2 : en < b
                · have d11 : decide (en < b) = true := decide_eq_true hq2
                  have HRI := hide (HIH.out (P ++ A) (U.drop (i - a)) (V.drop (en - m)) Q mid en b N c g B wd
                    (by have := HBL.out; have := HB1.out; have := HSZ.out; have := HM.out; have := HB.out; have := HMID.out; have := HU1.out; omega) HAL.out.symm (by have := HBL.out; have := HB1.out; omega) (by have := HBL.out; have := HB1.out; omega)
                    (by have := HBL.out; have := HB1.out; omega) (by have := HBL.out; have := HB1.out; omega) hn (sorted_cut HSU.out (by have := HB1.out; have := HM.out; omega)).2 (sorted_cut HSV.out (by have := HB1.out; have := HB.out; omega)).2 (by simpa only [List.append_assoc] using HO7.out))
                  clear hq hq2
                  go_wp2_with fail
                  with_reducible refine HRI.out.mono ?_
                  rintro e w8 ⟨rfl, A2, hsb, ho8, hk8⟩
                  have HSB := hide hsb
                  have HO8 := hide ho8
                  have HK8 := hide (HK7.out.trans hk8 (fun _ _ h => h))
                  clear hsb ho8 hk8
                  go_wp2
                  exact bodyPost_ret (v := .tuple #[]) (by simp [results, Try.results43, go_sem]) rfl ⟨rfl, A ++ A2, HCUT.out A A2 HSA.out HSB.out, by simpa only [List.append_assoc] using HO8.out, HK8.out⟩
                · have d11 : decide (en < b) = false := decide_eq_false hq2
                  have HSB : Hid (Srt nk (U.drop (i - a) ++ V.drop (en - m)) (U.drop (i - a) ++ V.drop (en - m))) := hide (by
                    have e : V.drop (en - m) = [] := List.eq_nil_of_length_eq_zero (by have := HBL.out; have := HB1.out; omega)
                    rw [e, List.append_nil]
                    exact srt_refl (sorted_cut HSU.out (by have := HB1.out; have := HM.out; omega)).2)
                  clear hq hq2
                  go_wp2
                  exact bodyPost_ret (v := .tuple #[]) (by simp [results, Try.results43, go_sem]) rfl ⟨rfl, A ++ (U.drop (i - a) ++ V.drop (en - m)), HCUT.out A _ HSA.out HSB.out, by simpa only [List.append_assoc] using HO7.out, HK7.out⟩
              · have d10 : decide (mid < en) = false := decide_eq_false hq
                have HSB : Hid (Srt nk (U.drop (i - a) ++ V.drop (en - m)) (U.drop (i - a) ++ V.drop (en - m))) := hide (by
                  have e : U.drop (i - a) = [] := List.eq_nil_of_length_eq_zero (by have := HBL.out; have := HB1.out; omega)
                  rw [e, List.nil_append]
                  exact srt_refl (sorted_cut HSV.out (by have := HB1.out; have := HB.out; omega)).2)
                clear hq
                go_wp2
                exact bodyPost_ret (v := .tuple #[]) (by simp [results, Try.results43, go_sem]) rfl ⟨rfl, A ++ (U.drop (i - a) ++ V.drop (en - m)), HCUT.out A _ HSA.out HSB.out, by simpa only [List.append_assoc] using HO7.out, HK7.out⟩
          · have d6 : decide (m < en) = false := decide_eq_false hr2
            have HO6 : Hid (OW wb B 37 ePair (.slice (some ⟨g, 0, none⟩) N c) (P ++ (U.take (i - a) ++ V.take (en - m)) ++ (U.drop (i - a) ++ V.drop (en - m)) ++ Q)) := hide (by
              have h := HOB.out
              have e : V.take (en - m) = [] := List.eq_nil_of_length_eq_zero (by have := HBL.out; omega)
              rw [e] at h ⊢
              simpa only [List.append_assoc, List.nil_append, List.append_nil] using h)
            have HK6 := HKB
            clear hr hr2
            obtain ⟨wc, rfl⟩ : ∃ x, x = wb := ⟨_, rfl⟩
            by_cases hl : a < i
            · have d7 : decide (a < i) = true := decide_eq_true hl
              by_cases hl2 : i < mid
              · have d8 : decide (i < mid) = true := decide_eq_true hl2
                have HLE := hide (HIH.out P (U.take (i - a)) (V.take (en - m)) ((U.drop (i - a) ++ V.drop (en - m)) ++ Q) a i mid N c g B wc
                  (by have := HBL.out; have := HB1.out; have := HSZ.out; have := HM.out; have := HB.out; have := HMID.out; have := HU1.out; omega) HA.out (by have := HBL.out; have := HB1.out; omega) (by have := HBL.out; have := HB1.out; omega)
                  (by have := HBL.out; omega) (by have := HBL.out; have := HB1.out; omega) hn (sorted_cut HSU.out (by have := HB1.out; have := HM.out; omega)).1 (sorted_cut HSV.out (by have := HB1.out; have := HB.out; omega)).1 (by simpa only [List.append_assoc] using HO6.out))
                clear hl hl2
                go_wp2_with fail
                with_reducible refine HLE.out.mono ?_
                rintro e w7 ⟨rfl, A, hsa, ho7, hk7⟩
                have HSA := hide hsa
                have HO7 := hide ho7
                have HK7 := hide (HK6.out.trans hk7 (fun _ _ h => h))
                clear hsa ho7 hk7
                obtain ⟨wd, rfl⟩ : ∃ x, x = w7 := ⟨_, rfl⟩
                have HAL : Hid ((P ++ A).length = mid) := hide (by
                  have h1 := HSA.out.2.2
                  have h2 := HBL.out
                  have h3 := HB1.out
                  have h4 := HA.out
                  simp only [List.length_append] at h1 ⊢
                  omega)
                by_cases hq : mid < en
                · have d10 : decide (mid < en) = true := decide_eq_true hq
                  by_cases hq2 : en < b
                  · have d11 : decide (en < b) = true := decide_eq_true hq2
                    have HRI := hide (HIH.out (P ++ A) (U.drop (i - a)) (V.drop (en - m)) Q mid en b N c g B wd
                      (by have := HBL.out; have := HB1.out; have := HSZ.out; have := HM.out; have := HB.out; have := HMID.out; have := HU1.out; omega) HAL.out.symm (by have := HBL.out; have := HB1.out; omega) (by have := HBL.out; have := HB1.out; omega)
                      (by have := HBL.out; have := HB1.out; omega) (by have := HBL.out; have := HB1.out; omega) hn (sorted_cut HSU.out (by have := HB1.out; have := HM.out; omega)).2 (sorted_cut HSV.out (by have := HB1.out; have := HB.out; omega)).2 (by simpa only [List.append_assoc] using HO7.out))
                    clear hq hq2
                    go_wp2_with fail
                    with_reducible refine HRI.out.mono ?_
                    rintro e w8 ⟨rfl, A2, hsb, ho8, hk8⟩
                    have HSB := hide hsb
                    have HO8 := hide ho8
                    have HK8 := hide (HK7.out.trans hk8 (fun _ _ h => h))
                    clear hsb ho8 hk8
                    go_wp2
                    exact bodyPost_ret (v := .tuple #[]) (by simp [results, Try.results43, go_sem]) rfl ⟨rfl, A ++ A2, HCUT.out A A2 HSA.out HSB.out, by simpa only [List.append_assoc] using HO8.out, HK8.out⟩
                  · have d11 : decide (en < b) = false := decide_eq_false hq2
                    have HSB : Hid (Srt nk (U.drop (i - a) ++ V.drop (en - m)) (U.drop (i - a) ++ V.drop (en - m))) := hide (by
                      have e : V.drop (en - m) = [] := List.eq_nil_of_length_eq_zero (by have := HBL.out; have := HB1.out; omega)
                      rw [e, List.append_nil]
                      exact srt_refl (sorted_cut HSU.out (by have := HB1.out; have := HM.out; omega)).2)
                    clear hq hq2
                    go_wp2
                    exact bodyPost_ret (v := .tuple #[]) (by simp [results, Try.results43, go_sem]) rfl ⟨rfl, A ++ (U.drop (i - a) ++ V.drop (en - m)), HCUT.out A _ HSA.out HSB.out, by simpa only [List.append_assoc] using HO7.out, HK7.out⟩
                · have d10 : decide (mid < en) = false := decide_eq_false hq
                  have HSB : Hid (Srt nk (U.drop (i - a) ++ V.drop (en - m)) (U.drop (i - a) ++ V.drop (en - m))) := hide (by
                    have e : U.drop (i - a) = [] := List.eq_nil_of_length_eq_zero (by have := HBL.out; have := HB1.out; omega)
                    rw [e, List.nil_append]
                    exact srt_refl (sorted_cut HSV.out (by have := HB1.out; have := HB.out; omega)).2)
                  clear hq
                  go_wp2
                  exact bodyPost_ret (v := .tuple #[]) (by simp [results, Try.results43, go_sem]) rfl ⟨rfl, A ++ (U.drop (i - a) ++ V.drop (en - m)), HCUT.out A _ HSA.out HSB.out, by simpa only [List.append_assoc] using HO7.out, HK7.out⟩
              · have d8 : decide (i < mid) = false := decide_eq_false hl2
                obtain ⟨A, hA⟩ : ∃ A, A = U.take (i - a) ++ V.take (en - m) := ⟨_, rfl⟩
                have HSA : Hid (Srt nk (U.take (i - a) ++ V.take (en - m)) A) := hide (by
                  have e : V.take (en - m) = [] := List.eq_nil_of_length_eq_zero (by have := HBL.out; have := HB1.out; omega)
                  rw [hA, e, List.append_nil]
                  exact srt_refl (sorted_cut HSU.out (by have := HB1.out; have := HM.out; omega)).1)
                have HO7 : Hid (OW wc B 37 ePair (.slice (some ⟨g, 0, none⟩) N c) (P ++ A ++ ((U.drop (i - a) ++ V.drop (en - m)) ++ Q))) := hide (by rw [hA]; simpa only [List.append_assoc] using HO6.out)
                have HK7 := HK6
                clear hl hl2 hA
                obtain ⟨wd, rfl⟩ : ∃ x, x = wc := ⟨_, rfl⟩
                have HAL : Hid ((P ++ A).length = mid) := hide (by
                  have h1 := HSA.out.2.2
                  have h2 := HBL.out
                  have h3 := HB1.out
                  have h4 := HA.out
                  simp only [List.length_append] at h1 ⊢
                  omega)
                by_cases hq : mid < en
                · have d10 : decide (mid < en) = true := decide_eq_true hq
                  by_cases hq2 : en < b
                  · have d11 : decide (en < b) = true := decide_eq_true hq2
                    have HRI := hide (HIH.out (P ++ A) (U.drop (i - a)) (V.drop (en - m)) Q mid en b N c g B wd
                      (by have := HBL.out; have := HB1.out; have := HSZ.out; have := HM.out; have := HB.out; have := HMID.out; have := HU1.out; omega) HAL.out.symm (by have := HBL.out; have := HB1.out; omega) (by have := HBL.out; have := HB1.out; omega)
                      (by have := HBL.out; have := HB1.out; omega) (by have := HBL.out; have := HB1.out; omega) hn (sorted_cut HSU.out (by have := HB1.out; have := HM.out; omega)).2 (sorted_cut HSV.out (by have := HB1.out; have := HB.out; omega)).2 (by simpa only [List.append_assoc] using HO7.out))
                    clear hq hq2
                    go_wp2_with fail
                    with_reducible refine HRI.out.mono ?_
                    rintro e w8 ⟨rfl, A2, hsb, ho8, hk8⟩
                    have HSB := hide hsb
                    have HO8 := hide ho8
                    have HK8 := hide (HK7.out.trans hk8 (fun _ _ h => h))
                    clear hsb ho8 hk8
                    go_wp2
                    exact bodyPost_ret (v := .tuple #[]) (by simp [results, Try.results43, go_sem]) rfl ⟨rfl, A ++ A2, HCUT.out A A2 HSA.out HSB.out, by simpa only [List.append_assoc] using HO8.out, HK8.out⟩
                  · have d11 : decide (en < b) = false := decide_eq_false hq2
                    have HSB : Hid (Srt nk (U.drop (i - a) ++ V.drop (en - m)) (U.drop (i - a) ++ V.drop (en - m))) := hide (by
                      have e : V.drop (en - m) = [] := List.eq_nil_of_length_eq_zero (by have := HBL.out; have := HB1.out; omega)
                      rw [e, List.append_nil]
                      exact srt_refl (sorted_cut HSU.out (by have := HB1.out; have := HM.out; omega)).2)
                    clear hq hq2
                    go_wp2
                    exact bodyPost_ret (v := .tuple #[]) (by simp [results, Try.results43, go_sem]) rfl ⟨rfl, A ++ (U.drop (i - a) ++ V.drop (en - m)), HCUT.out A _ HSA.out HSB.out, by simpa only [List.append_assoc] using HO7.out, HK7.out⟩
                · have d10 : decide (mid < en) = false := decide_eq_false hq
                  have HSB : Hid (Srt nk (U.drop (i - a) ++ V.drop (en - m)) (U.drop (i - a) ++ V.drop (en - m))) := hide (by
                    have e : U.drop (i - a) = [] := List.eq_nil_of_length_eq_zero (by have := HBL.out; have := HB1.out; omega)
                    rw [e, List.nil_append]
                    exact srt_refl (sorted_cut HSV.out (by have := HB1.out; have := HB.out; omega)).2)
                  clear hq
                  go_wp2
                  exact bodyPost_ret (v := .tuple #[]) (by simp [results, Try.results43, go_sem]) rfl ⟨rfl, A ++ (U.drop (i - a) ++ V.drop (en - m)), HCUT.out A _ HSA.out HSB.out, by simpa only [List.append_assoc] using HO7.out, HK7.out⟩
            · have d7 : decide (a < i) = false := decide_eq_false hl
              obtain ⟨A, hA⟩ : ∃ A, A = U.take (i - a) ++ V.take (en - m) := ⟨_, rfl⟩
              have HSA : Hid (Srt nk (U.take (i - a) ++ V.take (en - m)) A) := hide (by
                have e : U.take (i - a) = [] := List.eq_nil_of_length_eq_zero (by have := HBL.out; have := HB1.out; omega)
                rw [hA, e, List.nil_append]
                exact srt_refl (sorted_cut HSV.out (by have := HB1.out; have := HB.out; omega)).1)
              have HO7 : Hid (OW wc B 37 ePair (.slice (some ⟨g, 0, none⟩) N c) (P ++ A ++ ((U.drop (i - a) ++ V.drop (en - m)) ++ Q))) := hide (by rw [hA]; simpa only [List.append_assoc] using HO6.out)
              have HK7 := HK6
              clear hl hA
              obtain ⟨wd, rfl⟩ : ∃ x, x = wc := ⟨_, rfl⟩
              have HAL : Hid ((P ++ A).length = mid) := hide (by
                have h1 := HSA.out.2.2
                have h2 := HBL.out
                have h3 := HB1.out
                have h4 := HA.out
                simp only [List.length_append] at h1 ⊢
                omega)
              by_cases hq : mid < en
              · have d10 : decide (mid < en) = true := decide_eq_true hq
                by_cases hq2 : en < b
                · have d11 : decide (en < b) = true := decide_eq_true hq2
                  have HRI := hide (HIH.out (P ++ A) (U.drop (i - a)) (V.drop (en - m)) Q mid en b N c g B wd
                    (by have := HBL.out; have := HB1.out; have := HSZ.out; have := HM.out; have := HB.out; have := HMID.out; have := HU1.out; omega) HAL.out.symm (by have := HBL.out; have := HB1.out; omega) (by have := HBL.out; have := HB1.out; omega)
                    (by have := HBL.out; have := HB1.out; omega) (by have := HBL.out; have := HB1.out; omega) hn (sorted_cut HSU.out (by have := HB1.out; have := HM.out; omega)).2 (sorted_cut HSV.out (by have := HB1.out; have := HB.out; omega)).2 (by simpa only [List.append_assoc] using HO7.out))
                  clear hq hq2
                  go_wp2_with fail
                  with_reducible refine HRI.out.mono ?_
                  rintro e w8 ⟨rfl, A2, hsb, ho8, hk8⟩
                  have HSB := hide hsb
                  have HO8 := hide ho8
                  have HK8 := hide (HK7.out.trans hk8 (fun _ _ h => h))
                  clear hsb ho8 hk8
                  go_wp2
                  exact bodyPost_ret (v := .tuple #[]) (by simp [results, Try.results43, go_sem]) rfl ⟨rfl, A ++ A2, HCUT.out A A2 HSA.out HSB.out, by simpa only [List.append_assoc] using HO8.out, HK8.out⟩
                · have d11 : decide (en < b) = false := decide_eq_false hq2
                  have HSB : Hid (Srt nk (U.drop (i - a) ++ V.drop (en - m)) (U.drop (i - a) ++ V.drop (en - m))) := hide (by
                    have e : V.drop (en - m) = [] := List.eq_nil_of_length_eq_zero (by have := HBL.out; have := HB1.out; omega)
                    rw [e, List.append_nil]
                    exact srt_refl (sorted_cut HSU.out (by have := HB1.out; have := HM.out; omega)).2)
                  clear hq hq2
                  go_wp2
                  exact bodyPost_ret (v := .tuple #[]) (by simp [results, Try.results43, go_sem]) rfl ⟨rfl, A ++ (U.drop (i - a) ++ V.drop (en - m)), HCUT.out A _ HSA.out HSB.out, by simpa only [List.append_assoc] using HO7.out, HK7.out⟩
              · have d10 : decide (mid < en) = false := decide_eq_false hq
                have HSB : Hid (Srt nk (U.drop (i - a) ++ V.drop (en - m)) (U.drop (i - a) ++ V.drop (en - m))) := hide (by
                  have e : U.drop (i - a) = [] := List.eq_nil_of_length_eq_zero (by have := HBL.out; have := HB1.out; omega)
                  rw [e, List.nil_append]
                  exact srt_refl (sorted_cut HSV.out (by have := HB1.out; have := HB.out; omega)).2)
                clear hq
                go_wp2
                exact bodyPost_ret (v := .tuple #[]) (by simp [results, Try.results43, go_sem]) rfl ⟨rfl, A ++ (U.drop (i - a) ++ V.drop (en - m)), HCUT.out A _ HSA.out HSB.out, by simpa only [List.append_assoc] using HO7.out, HK7.out⟩
        · have d5 : decide (i < m) = false := decide_eq_false hr
          have HO6 : Hid (OW wb B 37 ePair (.slice (some ⟨g, 0, none⟩) N c) (P ++ (U.take (i - a) ++ V.take (en - m)) ++ (U.drop (i - a) ++ V.drop (en - m)) ++ Q)) := hide (by
            have h := HOB.out
            have e : U.drop (i - a) = [] := List.eq_nil_of_length_eq_zero (by have := HBL.out; omega)
            rw [e] at h ⊢
            simpa only [List.append_assoc, List.nil_append, List.append_nil] using h)
          have HK6 := HKB
          clear hr
          obtain ⟨wc, rfl⟩ : ∃ x, x = wb := ⟨_, rfl⟩
          by_cases hl : a < i
          · have d7 : decide (a < i) = true := decide_eq_true hl
            by_cases hl2 : i < mid
            · have d8 : decide (i < mid) = true := decide_eq_true hl2
              have HLE := hide (HIH.out P (U.take (i - a)) (V.take (en - m)) ((U.drop (i - a) ++ V.drop (en - m)) ++ Q) a i mid N c g B wc
                (by have := HBL.out; have := HB1.out; have := HSZ.out; have := HM.out; have := HB.out; have := HMID.out; have := HU1.out; omega) HA.out (by have := HBL.out; have := HB1.out; omega) (by have := HBL.out; have := HB1.out; omega)
                (by have := HBL.out; omega) (by have := HBL.out; have := HB1.out; omega) hn (sorted_cut HSU.out (by have := HB1.out; have := HM.out; omega)).1 (sorted_cut HSV.out (by have := HB1.out; have := HB.out; omega)).1 (by simpa only [List.append_assoc] using HO6.out))
              clear hl hl2
              go_wp2_with fail
              with_reducible refine HLE.out.mono ?_
              rintro e w7 ⟨rfl, A, hsa, ho7, hk7⟩
              have HSA := hide hsa
              have HO7 := hide ho7
              have HK7 := hide (HK6.out.trans hk7 (fun _ _ h => h))
              clear hsa ho7 hk7
              obtain ⟨wd, rfl⟩ : ∃ x, x = w7 := ⟨_, rfl⟩
              have HAL : Hid ((P ++ A).length = mid) := hide (by
                have h1 := HSA.out.2.2
                have h2 := HBL.out
                have h3 := HB1.out
                have h4 := HA.out
                simp only [List.length_append] at h1 ⊢
                omega)
              by_cases hq : mid < en
              · have d10 : decide (mid < en) = true := decide_eq_true hq
                by_cases hq2 : en < b
                · have d11 : decide (en < b) = true := decide_eq_true hq2
                  have HRI := hide (HIH.out (P ++ A) (U.drop (i - a)) (V.drop (en - m)) Q mid en b N c g B wd
                    (by have := HBL.out; have := HB1.out; have := HSZ.out; have := HM.out; have := HB.out; have := HMID.out; have := HU1.out; omega) HAL.out.symm (by have := HBL.out; have := HB1.out; omega) (by have := HBL.out; have := HB1.out; omega)
                    (by have := HBL.out; have := HB1.out; omega) (by have := HBL.out; have := HB1.out; omega) hn (sorted_cut HSU.out (by have := HB1.out; have := HM.out; omega)).2 (sorted_cut HSV.out (by have := HB1.out; have := HB.out; omega)).2 (by simpa only [List.append_assoc] using HO7.out))
                  clear hq hq2
                  go_wp2_with fail
                  with_reducible refine HRI.out.mono ?_
                  rintro e w8 ⟨rfl, A2, hsb, ho8, hk8⟩
                  have HSB := hide hsb
                  have HO8 := hide ho8
                  have HK8 := hide (HK7.out.trans hk8 (fun _ _ h => h))
                  clear hsb ho8 hk8
                  go_wp2
                  exact bodyPost_ret (v := .tuple #[]) (by simp [results, Try.results43, go_sem]) rfl ⟨rfl, A ++ A2, HCUT.out A A2 HSA.out HSB.out, by simpa only [List.append_assoc] using HO8.out, HK8.out⟩
                · have d11 : decide (en < b) = false := decide_eq_false hq2
                  have HSB : Hid (Srt nk (U.drop (i - a) ++ V.drop (en - m)) (U.drop (i - a) ++ V.drop (en - m))) := hide (by
                    have e : V.drop (en - m) = [] := List.eq_nil_of_length_eq_zero (by have := HBL.out; have := HB1.out; omega)
                    rw [e, List.append_nil]
                    exact srt_refl (sorted_cut HSU.out (by have := HB1.out; have := HM.out; omega)).2)
                  clear hq hq2
                  go_wp2
                  exact bodyPost_ret (v := .tuple #[]) (by simp [results, Try.results43, go_sem]) rfl ⟨rfl, A ++ (U.drop (i - a) ++ V.drop (en - m)), HCUT.out A _ HSA.out HSB.out, by simpa only [List.append_assoc] using HO7.out, HK7.out⟩
              · have d10 : decide (mid < en) = false := decide_eq_false hq
                have HSB : Hid (Srt nk (U.drop (i - a) ++ V.drop (en - m)) (U.drop (i - a) ++ V.drop (en - m))) := hide (by
                  have e : U.drop (i - a) = [] := List.eq_nil_of_length_eq_zero (by have := HBL.out; have := HB1.out; omega)
                  rw [e, List.nil_append]
                  exact srt_refl (sorted_cut HSV.out (by have := HB1.out; have := HB.out; omega)).2)
                clear hq
                go_wp2
                exact bodyPost_ret (v := .tuple #[]) (by simp [results, Try.results43, go_sem]) rfl ⟨rfl, A ++ (U.drop (i - a) ++ V.drop (en - m)), HCUT.out A _ HSA.out HSB.out, by simpa only [List.append_assoc] using HO7.out, HK7.out⟩
            · have d8 : decide (i < mid) = false := decide_eq_false hl2
              obtain ⟨A, hA⟩ : ∃ A, A = U.take (i - a) ++ V.take (en - m) := ⟨_, rfl⟩
              have HSA : Hid (Srt nk (U.take (i - a) ++ V.take (en - m)) A) := hide (by
                have e : V.take (en - m) = [] := List.eq_nil_of_length_eq_zero (by have := HBL.out; have := HB1.out; omega)
                rw [hA, e, List.append_nil]
                exact srt_refl (sorted_cut HSU.out (by have := HB1.out; have := HM.out; omega)).1)
              have HO7 : Hid (OW wc B 37 ePair (.slice (some ⟨g, 0, none⟩) N c) (P ++ A ++ ((U.drop (i - a) ++ V.drop (en - m)) ++ Q))) := hide (by rw [hA]; simpa only [List.append_assoc] using HO6.out)
              have HK7 := HK6
              clear hl hl2 hA
              obtain ⟨wd, rfl⟩ : ∃ x, x = wc := ⟨_, rfl⟩
              have HAL : Hid ((P ++ A).length = mid) := hide (by
                have h1 := HSA.out.2.2
                have h2 := HBL.out
                have h3 := HB1.out
                have h4 := HA.out
                simp only [List.length_append] at h1 ⊢
                omega)
              by_cases hq : mid < en
              · have d10 : decide (mid < en) = true := decide_eq_true hq
                by_cases hq2 : en < b
                · have d11 : decide (en < b) = true := decide_eq_true hq2
                  have HRI := hide (HIH.out (P ++ A) (U.drop (i - a)) (V.drop (en - m)) Q mid en b N c g B wd
                    (by have := HBL.out; have := HB1.out; have := HSZ.out; have := HM.out; have := HB.out; have := HMID.out; have := HU1.out; omega) HAL.out.symm (by have := HBL.out; have := HB1.out; omega) (by have := HBL.out; have := HB1.out; omega)
                    (by have := HBL.out; have := HB1.out; omega) (by have := HBL.out; have := HB1.out; omega) hn (sorted_cut HSU.out (by have := HB1.out; have := HM.out; omega)).2 (sorted_cut HSV.out (by have := HB1.out; have := HB.out; omega)).2 (by simpa only [List.append_assoc] using HO7.out))
                  clear hq hq2
                  go_wp2_with fail
                  with_reducible refine HRI.out.mono ?_
                  rintro e w8 ⟨rfl, A2, hsb, ho8, hk8⟩
                  have HSB := hide hsb
                  have HO8 := hide ho8
                  have HK8 := hide (HK7.out.trans hk8 (fun _ _ h => h))
                  clear hsb ho8 hk8
                  go_wp2
                  exact bodyPost_ret (v := .tuple #[]) (by simp [results, Try.results43, go_sem]) rfl ⟨rfl, A ++ A2, HCUT.out A A2 HSA.out HSB.out, by simpa only [List.append_assoc] using HO8.out, HK8.out⟩
                · have d11 : decide (en < b) = false := decide_eq_false hq2
                  have HSB : Hid (Srt nk (U.drop (i - a) ++ V.drop (en - m)) (U.drop (i - a) ++ V.drop (en - m))) := hide (by
                    have e : V.drop (en - m) = [] := List.eq_nil_of_length_eq_zero (by have := HBL.out; have := HB1.out; omega)
                    rw [e, List.append_nil]
                    exact srt_refl (sorted_cut HSU.out (by have := HB1.out; have := HM.out; omega)).2)
                  clear hq hq2
                  go_wp2
                  exact bodyPost_ret (v := .tuple #[]) (by simp [results, Try.results43, go_sem]) rfl ⟨rfl, A ++ (U.drop (i - a) ++ V.drop (en - m)), HCUT.out A _ HSA.out HSB.out, by simpa only [List.append_assoc] using HO7.out, HK7.out⟩
              · have d10 : decide (mid < en) = false := decide_eq_false hq
                have HSB : Hid (Srt nk (U.drop (i - a) ++ V.drop (en - m)) (U.drop (i - a) ++ V.drop (en - m))) := hide (by
                  have e : U.drop (i - a) = [] := List.eq_nil_of_length_eq_zero (by have := HBL.out; have := HB1.out; omega)
                  rw [e, List.nil_append]
                  exact srt_refl (sorted_cut HSV.out (by have := HB1.out; have := HB.out; omega)).2)
                clear hq
                go_wp2
                exact bodyPost_ret (v := .tuple #[]) (by simp [results, Try.results43, go_sem]) rfl ⟨rfl, A ++ (U.drop (i - a) ++ V.drop (en - m)), HCUT.out A _ HSA.out HSB.out, by simpa only [List.append_assoc] using HO7.out, HK7.out⟩
          · have d7 : decide (a < i) = false := decide_eq_false hl
            obtain ⟨A, hA⟩ : ∃ A, A = U.take (i - a) ++ V.take (en - m) := ⟨_, rfl⟩
            have HSA : Hid (Srt nk (U.take (i - a) ++ V.take (en - m)) A) := hide (by
              have e : U.take (i - a) = [] := List.eq_nil_of_length_eq_zero (by have := HBL.out; have := HB1.out; omega)
              rw [hA, e, List.nil_append]
              exact srt_refl (sorted_cut HSV.out (by have := HB1.out; have := HB.out; omega)).1)
            have HO7 : Hid (OW wc B 37 ePair (.slice (some ⟨g, 0, none⟩) N c) (P ++ A ++ ((U.drop (i - a) ++ V.drop (en - m)) ++ Q))) := hide (by rw [hA]; simpa only [List.append_assoc] using HO6.out)
            have HK7 := HK6
            clear hl hA
            obtain ⟨wd, rfl⟩ : ∃ x, x = wc := ⟨_, rfl⟩
            have HAL : Hid ((P ++ A).length = mid) := hide (by
              have h1 := HSA.out.2.2
              have h2 := HBL.out
              have h3 := HB1.out
              have h4 := HA.out
              simp only [List.length_append] at h1 ⊢
              omega)
            by_cases hq : mid < en
            · have d10 : decide (mid < en) = true := decide_eq_true hq
              by_cases hq2 : en < b
              · have d11 : decide (en < b) = true := decide_eq_true hq2
                have HRI := hide (HIH.out (P ++ A) (U.drop (i - a)) (V.drop (en - m)) Q mid en b N c g B wd
                  (by have := HBL.out; have := HB1.out; have := HSZ.out; have := HM.out; have := HB.out; have := HMID.out; have := HU1.out; omega) HAL.out.symm (by have := HBL.out; have := HB1.out; omega) (by have := HBL.out; have := HB1.out; omega)
                  (by have := HBL.out; have := HB1.out; omega) (by have := HBL.out; have := HB1.out; omega) hn (sorted_cut HSU.out (by have := HB1.out; have := HM.out; omega)).2 (sorted_cut HSV.out (by have := HB1.out; have := HB.out; omega)).2 (by simpa only [List.append_assoc] using HO7.out))
                clear hq hq2
                go_wp2_with fail
                with_reducible refine HRI.out.mono ?_
                rintro e w8 ⟨rfl, A2, hsb, ho8, hk8⟩
                have HSB := hide hsb
                have HO8 := hide ho8
                have HK8 := hide (HK7.out.trans hk8 (fun _ _ h => h))
                clear hsb ho8 hk8
                go_wp2
                exact bodyPost_ret (v := .tuple #[]) (by simp [results, Try.results43, go_sem]) rfl ⟨rfl, A ++ A2, HCUT.out A A2 HSA.out HSB.out, by simpa only [List.append_assoc] using HO8.out, HK8.out⟩
              · have d11 : decide (en < b) = false := decide_eq_false hq2
                have HSB : Hid (Srt nk (U.drop (i - a) ++ V.drop (en - m)) (U.drop (i - a) ++ V.drop (en - m))) := hide (by
                  have e : V.drop (en - m) = [] := List.eq_nil_of_length_eq_zero (by have := HBL.out; have := HB1.out; omega)
                  rw [e, List.append_nil]
                  exact srt_refl (sorted_cut HSU.out (by have := HB1.out; have := HM.out; omega)).2)
                clear hq hq2
                go_wp2
                exact bodyPost_ret (v := .tuple #[]) (by simp [results, Try.results43, go_sem]) rfl ⟨rfl, A ++ (U.drop (i - a) ++ V.drop (en - m)), HCUT.out A _ HSA.out HSB.out, by simpa only [List.append_assoc] using HO7.out, HK7.out⟩
            · have d10 : decide (mid < en) = false := decide_eq_false hq
              have HSB : Hid (Srt nk (U.drop (i - a) ++ V.drop (en - m)) (U.drop (i - a) ++ V.drop (en - m))) := hide (by
                have e : U.drop (i - a) = [] := List.eq_nil_of_length_eq_zero (by have := HBL.out; have := HB1.out; omega)
                rw [e, List.nil_append]
                exact srt_refl (sorted_cut HSV.out (by have := HB1.out; have := HB.out; omega)).2)
              clear hq
              go_wp2
              exact bodyPost_ret (v := .tuple #[]) (by simp [results, Try.results43, go_sem]) rfl ⟨rfl, A ++ (U.drop (i - a) ++ V.drop (en - m)), HCUT.out A _ HSA.out HSB.out, by simpa only [List.append_assoc] using HO7.out, HK7.out⟩
  · have d0 : decide (mid < m) = false := decide_eq_false hbr
    have HR0 : Hid (a ≤ a ∧ a ≤ m ∧ m ≤ m ∧ m ≤ nn - m ∧ nn - a ≤ b) := hide (by omega)
    have HEX : Hid (∀ s en, en = nn - s → (s = a → a < s → en < b → False) ∧ (s = m → s < m → m < en → False)) := hide (fun s en h => by omega)
    have HREL : Hid (BsR (fun k => ∃ u v, L[p - k]? = some u ∧ L[k]? = some v ∧ nk v ≤ nk u) a m w (.int .i64 (a : Int)) (.int .i64 (m : Int)) w) := hide ⟨a, m, by omega, by omega, by omega, rfl, rfl, fun h => by omega, fun h => by omega, Kp.refl _⟩
    clear ho ha hm hb hNl hsU hsV hL hLU hLV hLl hU hV hD1 hD2 hmid hnn hp hbr IH hsz
    go_enter Try.func43, Try.ntmps43
    go_wp2
    go_loopw [20, 21] (BsR (fun k => ∃ u v, L[p - k]? = some u ∧ L[k]? = some v ∧ nk v ≤ nk u) a m w) (fun i j _ => (intOf j - intOf i).toNat)
    case atStart => exact HREL.out
    case round =>
      clear HREL
      obtain ⟨i, j, hmi, hij, hjb, rfl, rfl, hc1, hc2, hkp⟩ := hrel
      have HC1 := hide hc1
      have HC2 := hide hc2
      have HKP := hide hkp
      have HOW := hide (HO.out.kp hkp)
      clear hc1 hc2 hkp
      by_cases hlt : i < j
      · have d9 : decide ((i : Int) < (j : Int)) = true := by simp; omega
        obtain ⟨h, hh⟩ : ∃ h, h = (i + j) / 2 := ⟨_, rfl⟩
        obtain ⟨h', hh'⟩ : ∃ h', h' = p - h := ⟨_, rfl⟩
        have h64 : i + j ≤ 1000000 := by have := HM.out; have := HB.out; have := HN.out; have := HA.out; have := HR0.out; omega
        have hH2 : ((i : Int) + (j : Int)) / 2 = (h : Int) := by omega
        have hhN : h < N := by have := HM.out; have := HB.out; have := HN.out; have := HA.out; have := HR0.out; omega
        have hpN : h' < N := by have := HM.out; have := HB.out; have := HN.out; have := HA.out; have := HR0.out; have := HP.out; have := HNN.out; omega
        have hw : IntKind.i64.wrap ((p : Int) - (h : Int)) = (h' : Int) := by rw [IntWalk.i64_in _ (by omega)]; have := HM.out; have := HB.out; have := HN.out; have := HA.out; have := HR0.out; have := HP.out; have := HNN.out; omega
        obtain ⟨v, hv⟩ : ∃ y, y = L[h]'(by have := HLL.out; omega) := ⟨_, rfl⟩
        obtain ⟨u, hu⟩ : ∃ y, y = L[h']'(by have := HLL.out; omega) := ⟨_, rfl⟩
        have hLh : L[h]? = some v := by rw [hv]; exact List.getElem?_eq_getElem _
        have hLp : L[h']? = some u := by rw [hu]; exact List.getElem?_eq_getElem _
        have HH := hide hh
        have HH' := hide hh'
        have HVL := hide hLh
        have HUL := hide hLp
        clear hh hh' hu hv hLh hLp
        by_cases hc : nk u < nk v
        · have HCC := hide hc
          have t3 : decide (cmp3 (nk u) (nk v) < 0) = true := by rw [cmp3_neg]; simpa using hc
          have t3' : (cmp3 (nk u) (nk v) < 0) = (true = true) := by have := t3; simp at this; simp; omega
          have px := HOW.out.pairAt? HUL.out
          have pz := HOW.out.pairAt? HVL.out
          obtain ⟨x0, x1, _, _⟩ := px
          obtain ⟨z0, z1, _, _⟩ := pz
          have i0 : (0 : Int) ≤ (h' : Int) := by omega
          have i1 : (h' : Int) < (N : Int) := by omega
          have i2 : (0 : Int) ≤ (h : Int) := by omega
          have i3 : (h : Int) < (N : Int) := by omega
          have KS : Hid (∀ W', Kp wr W' → (W'.cell? ⟨g, h' * 2, none⟩ = some (.int .i64 u.1) ∧ W'.cell? ⟨g, h' * 2 + 1, none⟩ = some (.int .i64 u.2) ∧ W'.cell? ⟨g, h * 2, none⟩ = some (.int .i64 v.1) ∧ W'.cell? ⟨g, h * 2 + 1, none⟩ = some (.int .i64 v.2) ∧ Kp wr W')) := hide fun W' h => ⟨h.cell x0, h.cell x1, h.cell z0, h.cell z1, h⟩
          have KD0 := Kp.refl wr
          have KD1 := KD0.drew
          go_wp2_with fail
          go_region_held3 (fun w' => w'.cell? ⟨g, h' * 2, none⟩ = some (.int .i64 u.1) ∧ w'.cell? ⟨g, h' * 2 + 1, none⟩ = some (.int .i64 u.2) ∧ w'.cell? ⟨g, h * 2, none⟩ = some (.int .i64 v.1) ∧ w'.cell? ⟨g, h * 2 + 1, none⟩ = some (.int .i64 v.2) ∧ Kp wr w') ((go_split_ands; refine KS.out _ ?_; (focus ((repeat (first | (with_reducible assumption) | (with_reducible exact Kp.refl _) | (with_reducible apply Kp.drew) | (with_reducible apply Kp.drewN) | ((with_reducible apply Kp.setR); (focus (first | (with_reducible assumption) | (simp; done) | (simp; omega)))) | (with_reducible apply Kp.alloc) | ((with_reducible apply Kp.call); (with_reducible assumption)) | ((with_reducible apply Kp.app); (with_reducible assumption)))); done))))
            (first
              | (go_at_call 21; refine (ord_any u v _).mono ?_; rintro e w5 ⟨rfl, hb5⟩))
          all_goals
            have k5 : Kp wr w5 := by go_split_ands; (focus ((repeat (first | (with_reducible assumption) | (with_reducible exact Kp.refl _) | (with_reducible apply Kp.drew) | (with_reducible apply Kp.drewN) | ((with_reducible apply Kp.setR); (focus (first | (with_reducible assumption) | (simp; done) | (simp; omega)))) | (with_reducible apply Kp.alloc) | ((with_reducible apply Kp.call); (with_reducible assumption)) | ((with_reducible apply Kp.app); (with_reducible assumption)))); done))
            have HK5 := hide (HKP.out.trans k5)
            clear KS KD0 KD1 x0 x1 z0 z1 k5 hb5
            clear hc
            go_wp2
            go_roundw
            case rel => exact ⟨i, h, hmi, by have := HH.out; omega, by have := HH.out; omega, rfl, rfl, HC1.out, fun _ ⟨u', v', h1, h2, h3⟩ => by
              rw [← HH'.out, HUL.out] at h1; injection h1 with h1; subst h1
              rw [HVL.out] at h2; injection h2 with h2; subst h2
              have := HCC.out; omega, HK5.out⟩
            case measure => have := HH.out; simp [intOf]; omega
        · have HCC := hide hc
          have t3 : decide (cmp3 (nk u) (nk v) < 0) = false := by rw [cmp3_neg]; simpa using hc
          have t3' : (cmp3 (nk u) (nk v) < 0) = (false = true) := by have := t3; simp at this; simp; omega
          have px := HOW.out.pairAt? HUL.out
          have pz := HOW.out.pairAt? HVL.out
          obtain ⟨x0, x1, _, _⟩ := px
          obtain ⟨z0, z1, _, _⟩ := pz
          have i0 : (0 : Int) ≤ (h' : Int) := by omega
          have i1 : (h' : Int) < (N : Int) := by omega
          have i2 : (0 : Int) ≤ (h : Int) := by omega
          have i3 : (h : Int) < (N : Int) := by omega
          have KS : Hid (∀ W', Kp wr W' → (W'.cell? ⟨g, h' * 2, none⟩ = some (.int .i64 u.1) ∧ W'.cell? ⟨g, h' * 2 + 1, none⟩ = some (.int .i64 u.2) ∧ W'.cell? ⟨g, h * 2, none⟩ = some (.int .i64 v.1) ∧ W'.cell? ⟨g, h * 2 + 1, none⟩ = some (.int .i64 v.2) ∧ Kp wr W')) := hide fun W' h => ⟨h.cell x0, h.cell x1, h.cell z0, h.cell z1, h⟩
          have KD0 := Kp.refl wr
          have KD1 := KD0.drew
          go_wp2_with fail
          go_region_held3 (fun w' => w'.cell? ⟨g, h' * 2, none⟩ = some (.int .i64 u.1) ∧ w'.cell? ⟨g, h' * 2 + 1, none⟩ = some (.int .i64 u.2) ∧ w'.cell? ⟨g, h * 2, none⟩ = some (.int .i64 v.1) ∧ w'.cell? ⟨g, h * 2 + 1, none⟩ = some (.int .i64 v.2) ∧ Kp wr w') ((go_split_ands; refine KS.out _ ?_; (focus ((repeat (first | (with_reducible assumption) | (with_reducible exact Kp.refl _) | (with_reducible apply Kp.drew) | (with_reducible apply Kp.drewN) | ((with_reducible apply Kp.setR); (focus (first | (with_reducible assumption) | (simp; done) | (simp; omega)))) | (with_reducible apply Kp.alloc) | ((with_reducible apply Kp.call); (with_reducible assumption)) | ((with_reducible apply Kp.app); (with_reducible assumption)))); done))))
            (first
              | (go_at_call 21; refine (ord_any u v _).mono ?_; rintro e w5 ⟨rfl, hb5⟩))
          all_goals
            have k5 : Kp wr w5 := by go_split_ands; (focus ((repeat (first | (with_reducible assumption) | (with_reducible exact Kp.refl _) | (with_reducible apply Kp.drew) | (with_reducible apply Kp.drewN) | ((with_reducible apply Kp.setR); (focus (first | (with_reducible assumption) | (simp; done) | (simp; omega)))) | (with_reducible apply Kp.alloc) | ((with_reducible apply Kp.call); (with_reducible assumption)) | ((with_reducible apply Kp.app); (with_reducible assumption)))); done))
            have HK5 := hide (HKP.out.trans k5)
            clear KS KD0 KD1 x0 x1 z0 z1 k5 hb5
            clear hc
            go_wp2
            go_roundw
            case rel => exact ⟨h + 1, j, by have := HH.out; omega, by have := HH.out; omega, hjb, by go_num, rfl, fun _ => ⟨u, v, by rw [Nat.add_sub_cancel, ← HH'.out]; exact HUL.out, HVL.out, by have := HCC.out; omega⟩, HC2.out, HK5.out⟩
            case measure => have := HH.out; simp [intOf]; omega
      · obtain rfl : i = j := by omega
        have d9 : decide ((i : Int) < (i : Int)) = false := by simp
        obtain ⟨en, hen⟩ : ∃ en, en = nn - i := ⟨_, rfl⟩
        have wEN : IntKind.i64.wrap ((nn : Int) - (i : Int)) = (en : Int) := by rw [IntWalk.i64_in _ (by have := HM.out; have := HB.out; have := HN.out; have := HA.out; have := HR0.out; have := HNN.out; omega)]; have := HM.out; have := HB.out; have := HN.out; have := HA.out; have := HR0.out; have := HNN.out; omega
        have hB1 : a ≤ i ∧ i ≤ m ∧ m ≤ en ∧ en ≤ b ∧ i ≤ mid ∧ mid ≤ en ∧ mid + m = i + en := by have := HR0.out; have := HNN.out; omega
        have hcut : ∀ A B : List IP, Srt nk (U.take (i - a) ++ V.take (en - m)) A → Srt nk (U.drop (i - a) ++ V.drop (en - m)) B → Srt nk (U ++ V) (A ++ B) := fun A B h1 h2 => by
          have hMM := HM.out
          have hBB := HB.out
          refine sym_cut HSU.out HSV.out (i := i - a) (j := en - m) (by omega) (by omega) (fun g1 g2 => ?_) (fun g1 g2 => ?_) h1 h2
          · have hs : a < i := by
              have := (HEX.out i en hen).1
              rcases Nat.lt_or_ge a i with h | h
              · exact h
              · exact absurd (this (by omega) (by omega) (by omega)) id
            obtain ⟨u, v, e1, e2, e3⟩ := HC1.out hs
            have f1 := HLU.out (i - a - 1) (by omega)
            have f2 := HLV.out (en - m) g2
            rw [show a + (i - a - 1) = i - 1 by omega, e2] at f1
            rw [show m + (en - m) = p - (i - 1) by have := HP.out; omega, e1] at f2
            injection f1 with f1
            injection f2 with f2
            rw [← f1, ← f2]; exact e3
          · have hs : i < m := by
              have := (HEX.out i en hen).2
              rcases Nat.lt_or_ge i m with h | h
              · exact h
              · exact absurd (this (by omega) (by omega) (by omega)) id
            have e1 := HC2.out hs
            have f1 := HLU.out (i - a) g1
            have f2 := HLV.out (en - m - 1) (by omega)
            rw [show a + (i - a) = i by omega] at f1
            rw [show m + (en - m - 1) = p - i by have := HP.out; omega] at f2
            apply Decidable.byContradiction
            intro h
            exact e1 ⟨_, _, f2, f1, by omega⟩
        have HCUT := hide hcut
        have HB1 := hide hB1
        have HEN := hide hen
        have HBL := hide (show (U.take (i - a)).length = i - a ∧ (U.drop (i - a)).length = m - i ∧ (V.take (en - m)).length = en - m ∧ (V.drop (en - m)).length = b - en by
          have := HM.out; have := HB.out
          simp only [List.length_take, List.length_drop]; omega)
        obtain ⟨wb, rfl⟩ : ∃ x, x = wr := ⟨_, rfl⟩
        have HOB : Hid (OW wb B 37 ePair (.slice (some ⟨g, 0, none⟩) N c) (P ++ U.take (i - a) ++ U.drop (i - a) ++ V.take (en - m) ++ (V.drop (en - m) ++ Q))) := hide (by
          have h := HOW.out
          rw [HL.out] at h
          have e1 : U.take (i - a) ++ U.drop (i - a) = U := List.take_append_drop _ _
          have e2 : V.take (en - m) ++ V.drop (en - m) = V := List.take_append_drop _ _
          have e3 : P ++ U.take (i - a) ++ U.drop (i - a) ++ V.take (en - m) ++ (V.drop (en - m) ++ Q) = P ++ ((U.take (i - a) ++ U.drop (i - a)) ++ (V.take (en - m) ++ V.drop (en - m))) ++ Q := by simp only [List.append_assoc]
          rw [e3, e1, e2]; exact h)
        have HKB := hide (Kf.of (F := fun k => k = g) HKP.out)
        clear hcut hB1 hen HOW HC1 HC2
        by_cases hr : i < m
        · have d5 : decide (i < m) = true := decide_eq_true hr
          by_cases hr2 : m < en
          · have d6 : decide (m < en) = true := decide_eq_true hr2
            have HRO := hide (fun fv => rotate_any (P ++ U.take (i - a)) (U.drop (i - a)) (V.take (en - m)) (V.drop (en - m) ++ Q) i m en N c g B fv wb (by have := HBL.out; have := HA.out; have := HB1.out; simp only [List.length_append]; omega) (by have := HBL.out; have := HB1.out; omega) (by have := HBL.out; have := HB1.out; omega) (by have := HBL.out; omega) (by have := HBL.out; omega) hn HOB.out)
            clear hr hr2
            go_wp2_with fail
            with_reducible refine (HRO.out _).mono ?_
            rintro e w6 ⟨rfl, ho6, hk6⟩
            have HO6 : Hid (OW w6 B 37 ePair (.slice (some ⟨g, 0, none⟩) N c) (P ++ (U.take (i - a) ++ V.take (en - m)) ++ (U.drop (i - a) ++ V.drop (en - m)) ++ Q)) := hide (by simpa only [List.append_assoc] using ho6)
            have HK6 := hide (HKB.out.trans hk6 (fun _ _ h => h))
            clear ho6 hk6
            obtain ⟨wc, rfl⟩ : ∃ x, x = w6 := ⟨_, rfl⟩
            by_cases hl : a < i
            · have d7 : decide (a < i) = true := decide_eq_true hl
              by_cases hl2 : i < mid
              · have d8 : decide (i < mid) = true := decide_eq_true hl2
                have HLE := hide (HIH.out P (U.take (i - a)) (V.take (en - m)) ((U.drop (i - a) ++ V.drop (en - m)) ++ Q) a i mid N c g B wc
                  (by have := HBL.out; have := HB1.out; have := HSZ.out; have := HM.out; have := HB.out; have := HMID.out; have := HU1.out; omega) HA.out (by have := HBL.out; have := HB1.out; omega) (by have := HBL.out; have := HB1.out; omega)
                  (by have := HBL.out; omega) (by have := HBL.out; have := HB1.out; omega) hn (sorted_cut HSU.out (by have := HB1.out; have := HM.out; omega)).1 (sorted_cut HSV.out (by have := HB1.out; have := HB.out; omega)).1 (by simpa only [List.append_assoc] using HO6.out))
                clear hl hl2
                go_wp2_with fail
                with_reducible refine HLE.out.mono ?_
                rintro e w7 ⟨rfl, A, hsa, ho7, hk7⟩
                have HSA := hide hsa
                have HO7 := hide ho7
                have HK7 := hide (HK6.out.trans hk7 (fun _ _ h => h))
                clear hsa ho7 hk7
                obtain ⟨wd, rfl⟩ : ∃ x, x = w7 := ⟨_, rfl⟩
                have HAL : Hid ((P ++ A).length = mid) := hide (by
                  have h1 := HSA.out.2.2
                  have h2 := HBL.out
                  have h3 := HB1.out
                  have h4 := HA.out
                  simp only [List.length_append] at h1 ⊢
                  omega)
                by_cases hq : mid < en
                · have d10 : decide (mid < en) = true := decide_eq_true hq
                  by_cases hq2 : en < b
                  · have d11 : decide (en < b) = true := decide_eq_true hq2
                    have HRI := hide (HIH.out (P ++ A) (U.drop (i - a)) (V.drop (en - m)) Q mid en b N c g B wd
                      (by have := HBL.out; have := HB1.out; have := HSZ.out; have := HM.out; have := HB.out; have := HMID.out; have := HU1.out; omega) HAL.out.symm (by have := HBL.out; have := HB1.out; omega) (by have := HBL.out; have := HB1.out; omega)
                      (by have := HBL.out; have := HB1.out; omega) (by have := HBL.out; have := HB1.out; omega) hn (sorted_cut HSU.out (by have := HB1.out; have := HM.out; omega)).2 (sorted_cut HSV.out (by have := HB1.out; have := HB.out; omega)).2 (by simpa only [List.append_assoc] using HO7.out))
                    clear hq hq2
                    go_wp2_with fail
                    with_reducible refine HRI.out.mono ?_
                    rintro e w8 ⟨rfl, A2, hsb, ho8, hk8⟩
                    have HSB := hide hsb
                    have HO8 := hide ho8
                    have HK8 := hide (HK7.out.trans hk8 (fun _ _ h => h))
                    clear hsb ho8 hk8
                    go_wp2
                    exact bodyPost_ret (v := .tuple #[]) (by simp [results, Try.results43, go_sem]) rfl ⟨rfl, A ++ A2, HCUT.out A A2 HSA.out HSB.out, by simpa only [List.append_assoc] using HO8.out, HK8.out⟩
                  · have d11 : decide (en < b) = false := decide_eq_false hq2
                    have HSB : Hid (Srt nk (U.drop (i - a) ++ V.drop (en - m)) (U.drop (i - a) ++ V.drop (en - m))) := hide (by
                      have e : V.drop (en - m) = [] := List.eq_nil_of_length_eq_zero (by have := HBL.out; have := HB1.out; omega)
                      rw [e, List.append_nil]
                      exact srt_refl (sorted_cut HSU.out (by have := HB1.out; have := HM.out; omega)).2)
                    clear hq hq2
                    go_wp2
                    exact bodyPost_ret (v := .tuple #[]) (by simp [results, Try.results43, go_sem]) rfl ⟨rfl, A ++ (U.drop (i - a) ++ V.drop (en - m)), HCUT.out A _ HSA.out HSB.out, by simpa only [List.append_assoc] using HO7.out, HK7.out⟩
                · have d10 : decide (mid < en) = false := decide_eq_false hq
                  have HSB : Hid (Srt nk (U.drop (i - a) ++ V.drop (en - m)) (U.drop (i - a) ++ V.drop (en - m))) := hide (by
                    have e : U.drop (i - a) = [] := List.eq_nil_of_length_eq_zero (by have := HBL.out; have := HB1.out; omega)
                    rw [e, List.nil_append]
                    exact srt_refl (sorted_cut HSV.out (by have := HB1.out; have := HB.out; omega)).2)
                  clear hq
                  go_wp2
                  exact bodyPost_ret (v := .tuple #[]) (by simp [results, Try.results43, go_sem]) rfl ⟨rfl, A ++ (U.drop (i - a) ++ V.drop (en - m)), HCUT.out A _ HSA.out HSB.out, by simpa only [List.append_assoc] using HO7.out, HK7.out⟩
              · have d8 : decide (i < mid) = false := decide_eq_false hl2
                obtain ⟨A, hA⟩ : ∃ A, A = U.take (i - a) ++ V.take (en - m) := ⟨_, rfl⟩
                have HSA : Hid (Srt nk (U.take (i - a) ++ V.take (en - m)) A) := hide (by
                  have e : V.take (en - m) = [] := List.eq_nil_of_length_eq_zero (by have := HBL.out; have := HB1.out; omega)
                  rw [hA, e, List.append_nil]
                  exact srt_refl (sorted_cut HSU.out (by have := HB1.out; have := HM.out; omega)).1)
                have HO7 : Hid (OW wc B 37 ePair (.slice (some ⟨g, 0, none⟩) N c) (P ++ A ++ ((U.drop (i - a) ++ V.drop (en - m)) ++ Q))) := hide (by rw [hA]; simpa only [List.append_assoc] using HO6.out)
                have HK7 := HK6
                clear hl hl2 hA
                obtain ⟨wd, rfl⟩ : ∃ x, x = wc := ⟨_, rfl⟩
                have HAL : Hid ((P ++ A).length = mid) := hide (by
                  have h1 := HSA.out.2.2
                  have h2 := HBL.out
                  have h3 := HB1.out
                  have h4 := HA.out
                  simp only [List.length_append] at h1 ⊢
                  omega)
                by_cases hq : mid < en
                · have d10 : decide (mid < en) = true := decide_eq_true hq
                  by_cases hq2 : en < b
                  · have d11 : decide (en < b) = true := decide_eq_true hq2
                    have HRI := hide (HIH.out (P ++ A) (U.drop (i - a)) (V.drop (en - m)) Q mid en b N c g B wd
                      (by have := HBL.out; have := HB1.out; have := HSZ.out; have := HM.out; have := HB.out; have := HMID.out; have := HU1.out; omega) HAL.out.symm (by have := HBL.out; have := HB1.out; omega) (by have := HBL.out; have := HB1.out; omega)
                      (by have := HBL.out; have := HB1.out; omega) (by have := HBL.out; have := HB1.out; omega) hn (sorted_cut HSU.out (by have := HB1.out; have := HM.out; omega)).2 (sorted_cut HSV.out (by have := HB1.out; have := HB.out; omega)).2 (by simpa only [List.append_assoc] using HO7.out))
                    clear hq hq2
                    go_wp2_with fail
                    with_reducible refine HRI.out.mono ?_
                    rintro e w8 ⟨rfl, A2, hsb, ho8, hk8⟩
                    have HSB := hide hsb
                    have HO8 := hide ho8
                    have HK8 := hide (HK7.out.trans hk8 (fun _ _ h => h))
                    clear hsb ho8 hk8
                    go_wp2
                    exact bodyPost_ret (v := .tuple #[]) (by simp [results, Try.results43, go_sem]) rfl ⟨rfl, A ++ A2, HCUT.out A A2 HSA.out HSB.out, by simpa only [List.append_assoc] using HO8.out, HK8.out⟩
                  · have d11 : decide (en < b) = false := decide_eq_false hq2
                    have HSB : Hid (Srt nk (U.drop (i - a) ++ V.drop (en - m)) (U.drop (i - a) ++ V.drop (en - m))) := hide (by
                      have e : V.drop (en - m) = [] := List.eq_nil_of_length_eq_zero (by have := HBL.out; have := HB1.out; omega)
                      rw [e, List.append_nil]
                      exact srt_refl (sorted_cut HSU.out (by have := HB1.out; have := HM.out; omega)).2)
                    clear hq hq2
                    go_wp2
                    exact bodyPost_ret (v := .tuple #[]) (by simp [results, Try.results43, go_sem]) rfl ⟨rfl, A ++ (U.drop (i - a) ++ V.drop (en - m)), HCUT.out A _ HSA.out HSB.out, by simpa only [List.append_assoc] using HO7.out, HK7.out⟩
                · have d10 : decide (mid < en) = false := decide_eq_false hq
                  have HSB : Hid (Srt nk (U.drop (i - a) ++ V.drop (en - m)) (U.drop (i - a) ++ V.drop (en - m))) := hide (by
                    have e : U.drop (i - a) = [] := List.eq_nil_of_length_eq_zero (by have := HBL.out; have := HB1.out; omega)
                    rw [e, List.nil_append]
                    exact srt_refl (sorted_cut HSV.out (by have := HB1.out; have := HB.out; omega)).2)
                  clear hq
                  go_wp2
                  exact bodyPost_ret (v := .tuple #[]) (by simp [results, Try.results43, go_sem]) rfl ⟨rfl, A ++ (U.drop (i - a) ++ V.drop (en - m)), HCUT.out A _ HSA.out HSB.out, by simpa only [List.append_assoc] using HO7.out, HK7.out⟩
            · have d7 : decide (a < i) = false := decide_eq_false hl
              obtain ⟨A, hA⟩ : ∃ A, A = U.take (i - a) ++ V.take (en - m) := ⟨_, rfl⟩
              have HSA : Hid (Srt nk (U.take (i - a) ++ V.take (en - m)) A) := hide (by
                have e : U.take (i - a) = [] := List.eq_nil_of_length_eq_zero (by have := HBL.out; have := HB1.out; omega)
                rw [hA, e, List.nil_append]
                exact srt_refl (sorted_cut HSV.out (by have := HB1.out; have := HB.out; omega)).1)
              have HO7 : Hid (OW wc B 37 ePair (.slice (some ⟨g, 0, none⟩) N c) (P ++ A ++ ((U.drop (i - a) ++ V.drop (en - m)) ++ Q))) := hide (by rw [hA]; simpa only [List.append_assoc] using HO6.out)
              have HK7 := HK6
              clear hl hA
              obtain ⟨wd, rfl⟩ : ∃ x, x = wc := ⟨_, rfl⟩
              have HAL : Hid ((P ++ A).length = mid) := hide (by
                have h1 := HSA.out.2.2
                have h2 := HBL.out
                have h3 := HB1.out
                have h4 := HA.out
                simp only [List.length_append] at h1 ⊢
                omega)
              by_cases hq : mid < en
              · have d10 : decide (mid < en) = true := decide_eq_true hq
                by_cases hq2 : en < b
                · have d11 : decide (en < b) = true := decide_eq_true hq2
                  have HRI := hide (HIH.out (P ++ A) (U.drop (i - a)) (V.drop (en - m)) Q mid en b N c g B wd
                    (by have := HBL.out; have := HB1.out; have := HSZ.out; have := HM.out; have := HB.out; have := HMID.out; have := HU1.out; omega) HAL.out.symm (by have := HBL.out; have := HB1.out; omega) (by have := HBL.out; have := HB1.out; omega)
                    (by have := HBL.out; have := HB1.out; omega) (by have := HBL.out; have := HB1.out; omega) hn (sorted_cut HSU.out (by have := HB1.out; have := HM.out; omega)).2 (sorted_cut HSV.out (by have := HB1.out; have := HB.out; omega)).2 (by simpa only [List.append_assoc] using HO7.out))
                  clear hq hq2
                  go_wp2_with fail
                  with_reducible refine HRI.out.mono ?_
                  rintro e w8 ⟨rfl, A2, hsb, ho8, hk8⟩
                  have HSB := hide hsb
                  have HO8 := hide ho8
                  have HK8 := hide (HK7.out.trans hk8 (fun _ _ h => h))
                  clear hsb ho8 hk8
                  go_wp2
                  exact bodyPost_ret (v := .tuple #[]) (by simp [results, Try.results43, go_sem]) rfl ⟨rfl, A ++ A2, HCUT.out A A2 HSA.out HSB.out, by simpa only [List.append_assoc] using HO8.out, HK8.out⟩
                · have d11 : decide (en < b) = false := decide_eq_false hq2
                  have HSB : Hid (Srt nk (U.drop (i - a) ++ V.drop (en - m)) (U.drop (i - a) ++ V.drop (en - m))) := hide (by
                    have e : V.drop (en - m) = [] := List.eq_nil_of_length_eq_zero (by have := HBL.out; have := HB1.out; omega)
                    rw [e, List.append_nil]
                    exact srt_refl (sorted_cut HSU.out (by have := HB1.out; have := HM.out; omega)).2)
                  clear hq hq2
                  go_wp2
                  exact bodyPost_ret (v := .tuple #[]) (by simp [results, Try.results43, go_sem]) rfl ⟨rfl, A ++ (U.drop (i - a) ++ V.drop (en - m)), HCUT.out A _ HSA.out HSB.out, by simpa only [List.append_assoc] using HO7.out, HK7.out⟩
              · have d10 : decide (mid < en) = false := decide_eq_false hq
                have HSB : Hid (Srt nk (U.drop (i - a) ++ V.drop (en - m)) (U.drop (i - a) ++ V.drop (en - m))) := hide (by
                  have e : U.drop (i - a) = [] := List.eq_nil_of_length_eq_zero (by have := HBL.out; have := HB1.out; omega)
                  rw [e, List.nil_append]
                  exact srt_refl (sorted_cut HSV.out (by have := HB1.out; have := HB.out; omega)).2)
                clear hq
                go_wp2
                exact bodyPost_ret (v := .tuple #[]) (by simp [results, Try.results43, go_sem]) rfl ⟨rfl, A ++ (U.drop (i - a) ++ V.drop (en - m)), HCUT.out A _ HSA.out HSB.out, by simpa only [List.append_assoc] using HO7.out, HK7.out⟩
          · have d6 : decide (m < en) = false := decide_eq_false hr2
            have HO6 : Hid (OW wb B 37 ePair (.slice (some ⟨g, 0, none⟩) N c) (P ++ (U.take (i - a) ++ V.take (en - m)) ++ (U.drop (i - a) ++ V.drop (en - m)) ++ Q)) := hide (by
              have h := HOB.out
              have e : V.take (en - m) = [] := List.eq_nil_of_length_eq_zero (by have := HBL.out; omega)
              rw [e] at h ⊢
              simpa only [List.append_assoc, List.nil_append, List.append_nil] using h)
            have HK6 := HKB
            clear hr hr2
            obtain ⟨wc, rfl⟩ : ∃ x, x = wb := ⟨_, rfl⟩
            by_cases hl : a < i
            · have d7 : decide (a < i) = true := decide_eq_true hl
              by_cases hl2 : i < mid
              · have d8 : decide (i < mid) = true := decide_eq_true hl2
                have HLE := hide (HIH.out P (U.take (i - a)) (V.take (en - m)) ((U.drop (i - a) ++ V.drop (en - m)) ++ Q) a i mid N c g B wc
                  (by have := HBL.out; have := HB1.out; have := HSZ.out; have := HM.out; have := HB.out; have := HMID.out; have := HU1.out; omega) HA.out (by have := HBL.out; have := HB1.out; omega) (by have := HBL.out; have := HB1.out; omega)
                  (by have := HBL.out; omega) (by have := HBL.out; have := HB1.out; omega) hn (sorted_cut HSU.out (by have := HB1.out; have := HM.out; omega)).1 (sorted_cut HSV.out (by have := HB1.out; have := HB.out; omega)).1 (by simpa only [List.append_assoc] using HO6.out))
                clear hl hl2
                go_wp2_with fail
                with_reducible refine HLE.out.mono ?_
                rintro e w7 ⟨rfl, A, hsa, ho7, hk7⟩
                have HSA := hide hsa
                have HO7 := hide ho7
                have HK7 := hide (HK6.out.trans hk7 (fun _ _ h => h))
                clear hsa ho7 hk7
                obtain ⟨wd, rfl⟩ : ∃ x, x = w7 := ⟨_, rfl⟩
                have HAL : Hid ((P ++ A).length = mid) := hide (by
                  have h1 := HSA.out.2.2
                  have h2 := HBL.out
                  have h3 := HB1.out
                  have h4 := HA.out
                  simp only [List.length_append] at h1 ⊢
                  omega)
                by_cases hq : mid < en
                · have d10 : decide (mid < en) = true := decide_eq_true hq
                  by_cases hq2 : en < b
                  · have d11 : decide (en < b) = true := decide_eq_true hq2
                    have HRI := hide (HIH.out (P ++ A) (U.drop (i - a)) (V.drop (en - m)) Q mid en b N c g B wd
                      (by have := HBL.out; have := HB1.out; have := HSZ.out; have := HM.out; have := HB.out; have := HMID.out; have := HU1.out; omega) HAL.out.symm (by have := HBL.out; have := HB1.out; omega) (by have := HBL.out; have := HB1.out; omega)
                      (by have := HBL.out; have := HB1.out; omega) (by have := HBL.out; have := HB1.out; omega) hn (sorted_cut HSU.out (by have := HB1.out; have := HM.out; omega)).2 (sorted_cut HSV.out (by have := HB1.out; have := HB.out; omega)).2 (by simpa only [List.append_assoc] using HO7.out))
                    clear hq hq2
                    go_wp2_with fail
                    with_reducible refine HRI.out.mono ?_
                    rintro e w8 ⟨rfl, A2, hsb, ho8, hk8⟩
                    have HSB := hide hsb
                    have HO8 := hide ho8
                    have HK8 := hide (HK7.out.trans hk8 (fun _ _ h => h))
                    clear hsb ho8 hk8
                    go_wp2
                    exact bodyPost_ret (v := .tuple #[]) (by simp [results, Try.results43, go_sem]) rfl ⟨rfl, A ++ A2, HCUT.out A A2 HSA.out HSB.out, by simpa only [List.append_assoc] using HO8.out, HK8.out⟩
                  · have d11 : decide (en < b) = false := decide_eq_false hq2
                    have HSB : Hid (Srt nk (U.drop (i - a) ++ V.drop (en - m)) (U.drop (i - a) ++ V.drop (en - m))) := hide (by
                      have e : V.drop (en - m) = [] := List.eq_nil_of_length_eq_zero (by have := HBL.out; have := HB1.out; omega)
                      rw [e, List.append_nil]
                      exact srt_refl (sorted_cut HSU.out (by have := HB1.out; have := HM.out; omega)).2)
                    clear hq hq2
                    go_wp2
                    exact bodyPost_ret (v := .tuple #[]) (by simp [results, Try.results43, go_sem]) rfl ⟨rfl, A ++ (U.drop (i - a) ++ V.drop (en - m)), HCUT.out A _ HSA.out HSB.out, by simpa only [List.append_assoc] using HO7.out, HK7.out⟩
                · have d10 : decide (mid < en) = false := decide_eq_false hq
                  have HSB : Hid (Srt nk (U.drop (i - a) ++ V.drop (en - m)) (U.drop (i - a) ++ V.drop (en - m))) := hide (by
                    have e : U.drop (i - a) = [] := List.eq_nil_of_length_eq_zero (by have := HBL.out; have := HB1.out; omega)
                    rw [e, List.nil_append]
                    exact srt_refl (sorted_cut HSV.out (by have := HB1.out; have := HB.out; omega)).2)
                  clear hq
                  go_wp2
                  exact bodyPost_ret (v := .tuple #[]) (by simp [results, Try.results43, go_sem]) rfl ⟨rfl, A ++ (U.drop (i - a) ++ V.drop (en - m)), HCUT.out A _ HSA.out HSB.out, by simpa only [List.append_assoc] using HO7.out, HK7.out⟩
              · have d8 : decide (i < mid) = false := decide_eq_false hl2
                obtain ⟨A, hA⟩ : ∃ A, A = U.take (i - a) ++ V.take (en - m) := ⟨_, rfl⟩
                have HSA : Hid (Srt nk (U.take (i - a) ++ V.take (en - m)) A) := hide (by
                  have e : V.take (en - m) = [] := List.eq_nil_of_length_eq_zero (by have := HBL.out; have := HB1.out; omega)
                  rw [hA, e, List.append_nil]
                  exact srt_refl (sorted_cut HSU.out (by have := HB1.out; have := HM.out; omega)).1)
                have HO7 : Hid (OW wc B 37 ePair (.slice (some ⟨g, 0, none⟩) N c) (P ++ A ++ ((U.drop (i - a) ++ V.drop (en - m)) ++ Q))) := hide (by rw [hA]; simpa only [List.append_assoc] using HO6.out)
                have HK7 := HK6
                clear hl hl2 hA
                obtain ⟨wd, rfl⟩ : ∃ x, x = wc := ⟨_, rfl⟩
                have HAL : Hid ((P ++ A).length = mid) := hide (by
                  have h1 := HSA.out.2.2
                  have h2 := HBL.out
                  have h3 := HB1.out
                  have h4 := HA.out
                  simp only [List.length_append] at h1 ⊢
                  omega)
                by_cases hq : mid < en
                · have d10 : decide (mid < en) = true := decide_eq_true hq
                  by_cases hq2 : en < b
                  · have d11 : decide (en < b) = true := decide_eq_true hq2
                    have HRI := hide (HIH.out (P ++ A) (U.drop (i - a)) (V.drop (en - m)) Q mid en b N c g B wd
                      (by have := HBL.out; have := HB1.out; have := HSZ.out; have := HM.out; have := HB.out; have := HMID.out; have := HU1.out; omega) HAL.out.symm (by have := HBL.out; have := HB1.out; omega) (by have := HBL.out; have := HB1.out; omega)
                      (by have := HBL.out; have := HB1.out; omega) (by have := HBL.out; have := HB1.out; omega) hn (sorted_cut HSU.out (by have := HB1.out; have := HM.out; omega)).2 (sorted_cut HSV.out (by have := HB1.out; have := HB.out; omega)).2 (by simpa only [List.append_assoc] using HO7.out))
                    clear hq hq2
                    go_wp2_with fail
                    with_reducible refine HRI.out.mono ?_
                    rintro e w8 ⟨rfl, A2, hsb, ho8, hk8⟩
                    have HSB := hide hsb
                    have HO8 := hide ho8
                    have HK8 := hide (HK7.out.trans hk8 (fun _ _ h => h))
                    clear hsb ho8 hk8
                    go_wp2
                    exact bodyPost_ret (v := .tuple #[]) (by simp [results, Try.results43, go_sem]) rfl ⟨rfl, A ++ A2, HCUT.out A A2 HSA.out HSB.out, by simpa only [List.append_assoc] using HO8.out, HK8.out⟩
                  · have d11 : decide (en < b) = false := decide_eq_false hq2
                    have HSB : Hid (Srt nk (U.drop (i - a) ++ V.drop (en - m)) (U.drop (i - a) ++ V.drop (en - m))) := hide (by
                      have e : V.drop (en - m) = [] := List.eq_nil_of_length_eq_zero (by have := HBL.out; have := HB1.out; omega)
                      rw [e, List.append_nil]
                      exact srt_refl (sorted_cut HSU.out (by have := HB1.out; have := HM.out; omega)).2)
                    clear hq hq2
                    go_wp2
                    exact bodyPost_ret (v := .tuple #[]) (by simp [results, Try.results43, go_sem]) rfl ⟨rfl, A ++ (U.drop (i - a) ++ V.drop (en - m)), HCUT.out A _ HSA.out HSB.out, by simpa only [List.append_assoc] using HO7.out, HK7.out⟩
                · have d10 : decide (mid < en) = false := decide_eq_false hq
                  have HSB : Hid (Srt nk (U.drop (i - a) ++ V.drop (en - m)) (U.drop (i - a) ++ V.drop (en - m))) := hide (by
                    have e : U.drop (i - a) = [] := List.eq_nil_of_length_eq_zero (by have := HBL.out; have := HB1.out; omega)
                    rw [e, List.nil_append]
                    exact srt_refl (sorted_cut HSV.out (by have := HB1.out; have := HB.out; omega)).2)
                  clear hq
                  go_wp2
                  exact bodyPost_ret (v := .tuple #[]) (by simp [results, Try.results43, go_sem]) rfl ⟨rfl, A ++ (U.drop (i - a) ++ V.drop (en - m)), HCUT.out A _ HSA.out HSB.out, by simpa only [List.append_assoc] using HO7.out, HK7.out⟩
            · have d7 : decide (a < i) = false := decide_eq_false hl
              obtain ⟨A, hA⟩ : ∃ A, A = U.take (i - a) ++ V.take (en - m) := ⟨_, rfl⟩
              have HSA : Hid (Srt nk (U.take (i - a) ++ V.take (en - m)) A) := hide (by
                have e : U.take (i - a) = [] := List.eq_nil_of_length_eq_zero (by have := HBL.out; have := HB1.out; omega)
                rw [hA, e, List.nil_append]
                exact srt_refl (sorted_cut HSV.out (by have := HB1.out; have := HB.out; omega)).1)
              have HO7 : Hid (OW wc B 37 ePair (.slice (some ⟨g, 0, none⟩) N c) (P ++ A ++ ((U.drop (i - a) ++ V.drop (en - m)) ++ Q))) := hide (by rw [hA]; simpa only [List.append_assoc] using HO6.out)
              have HK7 := HK6
              clear hl hA
              obtain ⟨wd, rfl⟩ : ∃ x, x = wc := ⟨_, rfl⟩
              have HAL : Hid ((P ++ A).length = mid) := hide (by
                have h1 := HSA.out.2.2
                have h2 := HBL.out
                have h3 := HB1.out
                have h4 := HA.out
                simp only [List.length_append] at h1 ⊢
                omega)
              by_cases hq : mid < en
              · have d10 : decide (mid < en) = true := decide_eq_true hq
                by_cases hq2 : en < b
                · have d11 : decide (en < b) = true := decide_eq_true hq2
                  have HRI := hide (HIH.out (P ++ A) (U.drop (i - a)) (V.drop (en - m)) Q mid en b N c g B wd
                    (by have := HBL.out; have := HB1.out; have := HSZ.out; have := HM.out; have := HB.out; have := HMID.out; have := HU1.out; omega) HAL.out.symm (by have := HBL.out; have := HB1.out; omega) (by have := HBL.out; have := HB1.out; omega)
                    (by have := HBL.out; have := HB1.out; omega) (by have := HBL.out; have := HB1.out; omega) hn (sorted_cut HSU.out (by have := HB1.out; have := HM.out; omega)).2 (sorted_cut HSV.out (by have := HB1.out; have := HB.out; omega)).2 (by simpa only [List.append_assoc] using HO7.out))
                  clear hq hq2
                  go_wp2_with fail
                  with_reducible refine HRI.out.mono ?_
                  rintro e w8 ⟨rfl, A2, hsb, ho8, hk8⟩
                  have HSB := hide hsb
                  have HO8 := hide ho8
                  have HK8 := hide (HK7.out.trans hk8 (fun _ _ h => h))
                  clear hsb ho8 hk8
                  go_wp2
                  exact bodyPost_ret (v := .tuple #[]) (by simp [results, Try.results43, go_sem]) rfl ⟨rfl, A ++ A2, HCUT.out A A2 HSA.out HSB.out, by simpa only [List.append_assoc] using HO8.out, HK8.out⟩
                · have d11 : decide (en < b) = false := decide_eq_false hq2
                  have HSB : Hid (Srt nk (U.drop (i - a) ++ V.drop (en - m)) (U.drop (i - a) ++ V.drop (en - m))) := hide (by
                    have e : V.drop (en - m) = [] := List.eq_nil_of_length_eq_zero (by have := HBL.out; have := HB1.out; omega)
                    rw [e, List.append_nil]
                    exact srt_refl (sorted_cut HSU.out (by have := HB1.out; have := HM.out; omega)).2)
                  clear hq hq2
                  go_wp2
                  exact bodyPost_ret (v := .tuple #[]) (by simp [results, Try.results43, go_sem]) rfl ⟨rfl, A ++ (U.drop (i - a) ++ V.drop (en - m)), HCUT.out A _ HSA.out HSB.out, by simpa only [List.append_assoc] using HO7.out, HK7.out⟩
              · have d10 : decide (mid < en) = false := decide_eq_false hq
                have HSB : Hid (Srt nk (U.drop (i - a) ++ V.drop (en - m)) (U.drop (i - a) ++ V.drop (en - m))) := hide (by
                  have e : U.drop (i - a) = [] := List.eq_nil_of_length_eq_zero (by have := HBL.out; have := HB1.out; omega)
                  rw [e, List.nil_append]
                  exact srt_refl (sorted_cut HSV.out (by have := HB1.out; have := HB.out; omega)).2)
                clear hq
                go_wp2
                exact bodyPost_ret (v := .tuple #[]) (by simp [results, Try.results43, go_sem]) rfl ⟨rfl, A ++ (U.drop (i - a) ++ V.drop (en - m)), HCUT.out A _ HSA.out HSB.out, by simpa only [List.append_assoc] using HO7.out, HK7.out⟩
        · have d5 : decide (i < m) = false := decide_eq_false hr
          have HO6 : Hid (OW wb B 37 ePair (.slice (some ⟨g, 0, none⟩) N c) (P ++ (U.take (i - a) ++ V.take (en - m)) ++ (U.drop (i - a) ++ V.drop (en - m)) ++ Q)) := hide (by
            have h := HOB.out
            have e : U.drop (i - a) = [] := List.eq_nil_of_length_eq_zero (by have := HBL.out; omega)
            rw [e] at h ⊢
            simpa only [List.append_assoc, List.nil_append, List.append_nil] using h)
          have HK6 := HKB
          clear hr
          obtain ⟨wc, rfl⟩ : ∃ x, x = wb := ⟨_, rfl⟩
          by_cases hl : a < i
          · have d7 : decide (a < i) = true := decide_eq_true hl
            by_cases hl2 : i < mid
            · have d8 : decide (i < mid) = true := decide_eq_true hl2
              have HLE := hide (HIH.out P (U.take (i - a)) (V.take (en - m)) ((U.drop (i - a) ++ V.drop (en - m)) ++ Q) a i mid N c g B wc
                (by have := HBL.out; have := HB1.out; have := HSZ.out; have := HM.out; have := HB.out; have := HMID.out; have := HU1.out; omega) HA.out (by have := HBL.out; have := HB1.out; omega) (by have := HBL.out; have := HB1.out; omega)
                (by have := HBL.out; omega) (by have := HBL.out; have := HB1.out; omega) hn (sorted_cut HSU.out (by have := HB1.out; have := HM.out; omega)).1 (sorted_cut HSV.out (by have := HB1.out; have := HB.out; omega)).1 (by simpa only [List.append_assoc] using HO6.out))
              clear hl hl2
              go_wp2_with fail
              with_reducible refine HLE.out.mono ?_
              rintro e w7 ⟨rfl, A, hsa, ho7, hk7⟩
              have HSA := hide hsa
              have HO7 := hide ho7
              have HK7 := hide (HK6.out.trans hk7 (fun _ _ h => h))
              clear hsa ho7 hk7
              obtain ⟨wd, rfl⟩ : ∃ x, x = w7 := ⟨_, rfl⟩
              have HAL : Hid ((P ++ A).length = mid) := hide (by
                have h1 := HSA.out.2.2
                have h2 := HBL.out
                have h3 := HB1.out
                have h4 := HA.out
                simp only [List.length_append] at h1 ⊢
                omega)
              by_cases hq : mid < en
              · have d10 : decide (mid < en) = true := decide_eq_true hq
                by_cases hq2 : en < b
                · have d11 : decide (en < b) = true := decide_eq_true hq2
                  have HRI := hide (HIH.out (P ++ A) (U.drop (i - a)) (V.drop (en - m)) Q mid en b N c g B wd
                    (by have := HBL.out; have := HB1.out; have := HSZ.out; have := HM.out; have := HB.out; have := HMID.out; have := HU1.out; omega) HAL.out.symm (by have := HBL.out; have := HB1.out; omega) (by have := HBL.out; have := HB1.out; omega)
                    (by have := HBL.out; have := HB1.out; omega) (by have := HBL.out; have := HB1.out; omega) hn (sorted_cut HSU.out (by have := HB1.out; have := HM.out; omega)).2 (sorted_cut HSV.out (by have := HB1.out; have := HB.out; omega)).2 (by simpa only [List.append_assoc] using HO7.out))
                  clear hq hq2
                  go_wp2_with fail
                  with_reducible refine HRI.out.mono ?_
                  rintro e w8 ⟨rfl, A2, hsb, ho8, hk8⟩
                  have HSB := hide hsb
                  have HO8 := hide ho8
                  have HK8 := hide (HK7.out.trans hk8 (fun _ _ h => h))
                  clear hsb ho8 hk8
                  go_wp2
                  exact bodyPost_ret (v := .tuple #[]) (by simp [results, Try.results43, go_sem]) rfl ⟨rfl, A ++ A2, HCUT.out A A2 HSA.out HSB.out, by simpa only [List.append_assoc] using HO8.out, HK8.out⟩
                · have d11 : decide (en < b) = false := decide_eq_false hq2
                  have HSB : Hid (Srt nk (U.drop (i - a) ++ V.drop (en - m)) (U.drop (i - a) ++ V.drop (en - m))) := hide (by
                    have e : V.drop (en - m) = [] := List.eq_nil_of_length_eq_zero (by have := HBL.out; have := HB1.out; omega)
                    rw [e, List.append_nil]
                    exact srt_refl (sorted_cut HSU.out (by have := HB1.out; have := HM.out; omega)).2)
                  clear hq hq2
                  go_wp2
                  exact bodyPost_ret (v := .tuple #[]) (by simp [results, Try.results43, go_sem]) rfl ⟨rfl, A ++ (U.drop (i - a) ++ V.drop (en - m)), HCUT.out A _ HSA.out HSB.out, by simpa only [List.append_assoc] using HO7.out, HK7.out⟩
              · have d10 : decide (mid < en) = false := decide_eq_false hq
                have HSB : Hid (Srt nk (U.drop (i - a) ++ V.drop (en - m)) (U.drop (i - a) ++ V.drop (en - m))) := hide (by
                  have e : U.drop (i - a) = [] := List.eq_nil_of_length_eq_zero (by have := HBL.out; have := HB1.out; omega)
                  rw [e, List.nil_append]
                  exact srt_refl (sorted_cut HSV.out (by have := HB1.out; have := HB.out; omega)).2)
                clear hq
                go_wp2
                exact bodyPost_ret (v := .tuple #[]) (by simp [results, Try.results43, go_sem]) rfl ⟨rfl, A ++ (U.drop (i - a) ++ V.drop (en - m)), HCUT.out A _ HSA.out HSB.out, by simpa only [List.append_assoc] using HO7.out, HK7.out⟩
            · have d8 : decide (i < mid) = false := decide_eq_false hl2
              obtain ⟨A, hA⟩ : ∃ A, A = U.take (i - a) ++ V.take (en - m) := ⟨_, rfl⟩
              have HSA : Hid (Srt nk (U.take (i - a) ++ V.take (en - m)) A) := hide (by
                have e : V.take (en - m) = [] := List.eq_nil_of_length_eq_zero (by have := HBL.out; have := HB1.out; omega)
                rw [hA, e, List.append_nil]
                exact srt_refl (sorted_cut HSU.out (by have := HB1.out; have := HM.out; omega)).1)
              have HO7 : Hid (OW wc B 37 ePair (.slice (some ⟨g, 0, none⟩) N c) (P ++ A ++ ((U.drop (i - a) ++ V.drop (en - m)) ++ Q))) := hide (by rw [hA]; simpa only [List.append_assoc] using HO6.out)
              have HK7 := HK6
              clear hl hl2 hA
              obtain ⟨wd, rfl⟩ : ∃ x, x = wc := ⟨_, rfl⟩
              have HAL : Hid ((P ++ A).length = mid) := hide (by
                have h1 := HSA.out.2.2
                have h2 := HBL.out
                have h3 := HB1.out
                have h4 := HA.out
                simp only [List.length_append] at h1 ⊢
                omega)
              by_cases hq : mid < en
              · have d10 : decide (mid < en) = true := decide_eq_true hq
                by_cases hq2 : en < b
                · have d11 : decide (en < b) = true := decide_eq_true hq2
                  have HRI := hide (HIH.out (P ++ A) (U.drop (i - a)) (V.drop (en - m)) Q mid en b N c g B wd
                    (by have := HBL.out; have := HB1.out; have := HSZ.out; have := HM.out; have := HB.out; have := HMID.out; have := HU1.out; omega) HAL.out.symm (by have := HBL.out; have := HB1.out; omega) (by have := HBL.out; have := HB1.out; omega)
                    (by have := HBL.out; have := HB1.out; omega) (by have := HBL.out; have := HB1.out; omega) hn (sorted_cut HSU.out (by have := HB1.out; have := HM.out; omega)).2 (sorted_cut HSV.out (by have := HB1.out; have := HB.out; omega)).2 (by simpa only [List.append_assoc] using HO7.out))
                  clear hq hq2
                  go_wp2_with fail
                  with_reducible refine HRI.out.mono ?_
                  rintro e w8 ⟨rfl, A2, hsb, ho8, hk8⟩
                  have HSB := hide hsb
                  have HO8 := hide ho8
                  have HK8 := hide (HK7.out.trans hk8 (fun _ _ h => h))
                  clear hsb ho8 hk8
                  go_wp2
                  exact bodyPost_ret (v := .tuple #[]) (by simp [results, Try.results43, go_sem]) rfl ⟨rfl, A ++ A2, HCUT.out A A2 HSA.out HSB.out, by simpa only [List.append_assoc] using HO8.out, HK8.out⟩
                · have d11 : decide (en < b) = false := decide_eq_false hq2
                  have HSB : Hid (Srt nk (U.drop (i - a) ++ V.drop (en - m)) (U.drop (i - a) ++ V.drop (en - m))) := hide (by
                    have e : V.drop (en - m) = [] := List.eq_nil_of_length_eq_zero (by have := HBL.out; have := HB1.out; omega)
                    rw [e, List.append_nil]
                    exact srt_refl (sorted_cut HSU.out (by have := HB1.out; have := HM.out; omega)).2)
                  clear hq hq2
                  go_wp2
                  exact bodyPost_ret (v := .tuple #[]) (by simp [results, Try.results43, go_sem]) rfl ⟨rfl, A ++ (U.drop (i - a) ++ V.drop (en - m)), HCUT.out A _ HSA.out HSB.out, by simpa only [List.append_assoc] using HO7.out, HK7.out⟩
              · have d10 : decide (mid < en) = false := decide_eq_false hq
                have HSB : Hid (Srt nk (U.drop (i - a) ++ V.drop (en - m)) (U.drop (i - a) ++ V.drop (en - m))) := hide (by
                  have e : U.drop (i - a) = [] := List.eq_nil_of_length_eq_zero (by have := HBL.out; have := HB1.out; omega)
                  rw [e, List.nil_append]
                  exact srt_refl (sorted_cut HSV.out (by have := HB1.out; have := HB.out; omega)).2)
                clear hq
                go_wp2
                exact bodyPost_ret (v := .tuple #[]) (by simp [results, Try.results43, go_sem]) rfl ⟨rfl, A ++ (U.drop (i - a) ++ V.drop (en - m)), HCUT.out A _ HSA.out HSB.out, by simpa only [List.append_assoc] using HO7.out, HK7.out⟩
          · have d7 : decide (a < i) = false := decide_eq_false hl
            obtain ⟨A, hA⟩ : ∃ A, A = U.take (i - a) ++ V.take (en - m) := ⟨_, rfl⟩
            have HSA : Hid (Srt nk (U.take (i - a) ++ V.take (en - m)) A) := hide (by
              have e : U.take (i - a) = [] := List.eq_nil_of_length_eq_zero (by have := HBL.out; have := HB1.out; omega)
              rw [hA, e, List.nil_append]
              exact srt_refl (sorted_cut HSV.out (by have := HB1.out; have := HB.out; omega)).1)
            have HO7 : Hid (OW wc B 37 ePair (.slice (some ⟨g, 0, none⟩) N c) (P ++ A ++ ((U.drop (i - a) ++ V.drop (en - m)) ++ Q))) := hide (by rw [hA]; simpa only [List.append_assoc] using HO6.out)
            have HK7 := HK6
            clear hl hA
            obtain ⟨wd, rfl⟩ : ∃ x, x = wc := ⟨_, rfl⟩
            have HAL : Hid ((P ++ A).length = mid) := hide (by
              have h1 := HSA.out.2.2
              have h2 := HBL.out
              have h3 := HB1.out
              have h4 := HA.out
              simp only [List.length_append] at h1 ⊢
              omega)
            by_cases hq : mid < en
            · have d10 : decide (mid < en) = true := decide_eq_true hq
              by_cases hq2 : en < b
              · have d11 : decide (en < b) = true := decide_eq_true hq2
                have HRI := hide (HIH.out (P ++ A) (U.drop (i - a)) (V.drop (en - m)) Q mid en b N c g B wd
                  (by have := HBL.out; have := HB1.out; have := HSZ.out; have := HM.out; have := HB.out; have := HMID.out; have := HU1.out; omega) HAL.out.symm (by have := HBL.out; have := HB1.out; omega) (by have := HBL.out; have := HB1.out; omega)
                  (by have := HBL.out; have := HB1.out; omega) (by have := HBL.out; have := HB1.out; omega) hn (sorted_cut HSU.out (by have := HB1.out; have := HM.out; omega)).2 (sorted_cut HSV.out (by have := HB1.out; have := HB.out; omega)).2 (by simpa only [List.append_assoc] using HO7.out))
                clear hq hq2
                go_wp2_with fail
                with_reducible refine HRI.out.mono ?_
                rintro e w8 ⟨rfl, A2, hsb, ho8, hk8⟩
                have HSB := hide hsb
                have HO8 := hide ho8
                have HK8 := hide (HK7.out.trans hk8 (fun _ _ h => h))
                clear hsb ho8 hk8
                go_wp2
                exact bodyPost_ret (v := .tuple #[]) (by simp [results, Try.results43, go_sem]) rfl ⟨rfl, A ++ A2, HCUT.out A A2 HSA.out HSB.out, by simpa only [List.append_assoc] using HO8.out, HK8.out⟩
              · have d11 : decide (en < b) = false := decide_eq_false hq2
                have HSB : Hid (Srt nk (U.drop (i - a) ++ V.drop (en - m)) (U.drop (i - a) ++ V.drop (en - m))) := hide (by
                  have e : V.drop (en - m) = [] := List.eq_nil_of_length_eq_zero (by have := HBL.out; have := HB1.out; omega)
                  rw [e, List.append_nil]
                  exact srt_refl (sorted_cut HSU.out (by have := HB1.out; have := HM.out; omega)).2)
                clear hq hq2
                go_wp2
                exact bodyPost_ret (v := .tuple #[]) (by simp [results, Try.results43, go_sem]) rfl ⟨rfl, A ++ (U.drop (i - a) ++ V.drop (en - m)), HCUT.out A _ HSA.out HSB.out, by simpa only [List.append_assoc] using HO7.out, HK7.out⟩
            · have d10 : decide (mid < en) = false := decide_eq_false hq
              have HSB : Hid (Srt nk (U.drop (i - a) ++ V.drop (en - m)) (U.drop (i - a) ++ V.drop (en - m))) := hide (by
                have e : U.drop (i - a) = [] := List.eq_nil_of_length_eq_zero (by have := HBL.out; have := HB1.out; omega)
                rw [e, List.nil_append]
                exact srt_refl (sorted_cut HSV.out (by have := HB1.out; have := HB.out; omega)).2)
              clear hq
              go_wp2
              exact bodyPost_ret (v := .tuple #[]) (by simp [results, Try.results43, go_sem]) rfl ⟨rfl, A ++ (U.drop (i - a) ++ V.drop (en - m)), HCUT.out A _ HSA.out HSB.out, by simpa only [List.append_assoc] using HO7.out, HK7.out⟩
theorem symMerge_any : ∀ k, SymGoal k
  | 0 => fun P U V Q a m b N c g B w hsz _ _ _ hU => by omega
  | k + 1 => fun P U V Q a m b N c g B w hsz ha hm hb hU hV hn hsU hsV ho => by
    by_cases h1 : U.length = 1
    · obtain ⟨x, rfl⟩ := List.length_eq_one_iff.1 h1
      exact symA_any P V Q x a m b N c g B w ha (by simpa using hm) hb hV hn hsV ho
    · by_cases h2 : V.length = 1
      · obtain ⟨y, rfl⟩ := List.length_eq_one_iff.1 h2
        exact symB_any P U Q y a m b N c g B w ha hm (by simpa using hb) (by omega) hn hsU ho
      · exact symC_any k (symMerge_any k) P U V Q a m b N c g B w hsz ha hm hb (by omega) (by omega) hn hsU hsV ho
end Go.Proofs.Ythbapflabjogkaa
