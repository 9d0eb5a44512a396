/-
  hedgkeep.HeapJoins: the walk: it answers true. Conditions: the lists read as a and b (RD).
-/
import Derived.Test.YthbapflabjogkaaHeapAnc
import Derived.Test.YthbapflabjogkaaHeapLives
import Derived.Test.YthbapflabjogkaaJoinLaw
namespace Go.Proofs.Ythbapflabjogkaa
open Go.ChangeShapes Go.WideShapes Go.ChangeAt Go.RowKit
set_option linter.unusedVariables false
set_option linter.unusedSimpArgs false

theorem heapOf_err (l : List IP) (h : (heapOf l).2 ≠ 0) : (heapOf l).1 = [] := by
  unfold heapOf at h ⊢
  split at h
  · exact absurd rfl h
  · rename_i h0; rw [if_neg h0]
theorem joinOf_err (a b : List IP) (h : (joinOf a b).2 ≠ 0) : (joinOf a b).1 = [] := by
  unfold joinOf at h ⊢
  split at h
  · rename_i h0; rw [if_pos h0]
  · rename_i h0
    rw [if_neg h0]
    split at h
    · rename_i h1; rw [if_pos h1]
    · rename_i h1
      rw [if_neg h1]
      split at h
      · rename_i h2; rw [if_pos h2]
      · rename_i h2
        rw [if_neg h2]
        exact heapOf_err _ h
theorem joinOf_ok (a b : List IP) (h : (joinOf a b).2 = 0) : mapRight a = 0 ∧ mapRight (a ++ b) = 0 ∧ joinOf a b = ((heapTree (a ++ b)).spots 0, 0) := by
  unfold joinOf at h ⊢
  by_cases h0 : mapRight a ≠ 0
  · rw [if_pos h0] at h; exact absurd h h0
  · rw [if_neg h0] at h ⊢
    by_cases h1 : mapRight b ≠ 0
    · rw [if_pos h1] at h; exact absurd h h1
    · rw [if_neg h1] at h ⊢
      cases h2 : meets a b with
      | true => rw [h2] at h; simp at h
      | false =>
        rw [h2] at h
        simp only [Bool.false_eq_true, if_false] at h ⊢
        have h3 : mapRight (a ++ b) = 0 := by
          unfold heapOf at h
          split at h
          · assumption
          · exact h
        exact ⟨by omega, h3, by rw [heapOf, if_pos h3]⟩

theorem par_anc (a b : List IP) (k j : Nat) (hk : k < a.length) (h : (hPar a)[k]'(by rw [hPar_len]; exact hk) = (j : Int)) : j ∈ (ptree (a ++ b) 0).anc k := by
  have hc := PT.chain0 (ptree a 0) (ptree_at a 0) k (by rw [ptree_size]; exact hk)
  rw [show ((ptree a 0).pars (-1))[k]'(by rw [PT.pars_len, ptree_size]; exact hk) = (j : Int) from h] at hc
  obtain ⟨s', hj, hs, _⟩ := hc.at_
  rw [PT.pars_len, ptree_size] at hj
  have hm : j ∈ (ptree a 0).anc k := by rw [hs]; simp
  have hjk : j ≠ k := by
    rintro rfl
    exact PT.anc_not _ 0 (ptree_at a 0) j hm
  have ht := (anc_tops a 0 j k hj hk hjk).1 (by rwa [Nat.zero_add, Nat.zero_add])
  have := (anc_tops (a ++ b) 0 j k (by simp; omega) (by simp; omega) hjk).2 (fun i hi hij => by
    have e : ∀ i, i < a.length → gv (a ++ b) i = gv a i := fun i h => by simp [gv, List.getD_eq_getElem?_getD, List.getElem?_append_left h]
    rw [e i (by omega), e j hj]
    exact ht i hi hij)
  rwa [Nat.zero_add, Nat.zero_add] at this

def J1 (a : List IP) (w : World) (i : Value) (wr : World) : Prop := ∃ k : Nat, k ≤ a.length ∧ i = .int .i64 k ∧ Kp w wr
def J2 (Q : List Int) (u : Int) (w : World) (av : Value) (wr : World) : Prop :=
  ∃ (x : Int) (s : List Nat), av = .int .i64 x ∧ Chain Q x s ∧ s.length ≤ 300 ∧ (0 ≤ u → u.toNat ∈ s) ∧ w = wr

set_option maxRecDepth 100000 in
set_option maxHeartbeats 8000000 in
theorem heapJoins_walk (a b : List IP) (va vb : Value) (w : World) (ha : RD w ePair va a) (hb : RD w ePair vb b) : Calls Try.prog 6 #[va, vb] w (Ret (.bool true) w) := by
  obtain ⟨A1, c1, rfl, hc1, hm1⟩ := ha.shape
  obtain ⟨A2, c2, rfl, hc2, hm2⟩ := hb.shape
  have HA := hide ha
  have HB := hide hb
  clear ha hb
  by_cases h0 : (joinOf a b).2 = 0
  · obtain ⟨hma, hmab, hjo⟩ := joinOf_ok a b h0
    have hofa : heapOf a = ((heapTree a).spots 0, 0) := by rw [heapOf, if_pos hma]
    have hlen := mapRight_len _ hmab
    have H1 := hide (fun W va vb h1 h2 => join_any a b va vb W h1 h2)
    have H2 := hide (fun W v h => heapOf_any a v W h)
    have H3 := hide (fun W v h => parents_of ((heapTree a).spots 0) v W h)
    have H4 := hide (fun W v h => parents_of ((heapTree (a ++ b)).spots 0) v W h)
    rw [hjo] at H1
    rw [hofa] at H2
    rw [parOf_heap a hma] at H3
    rw [parOf_heap (a ++ b) hmab] at H4
    rw [List.length_append] at hlen
    have HPL := hide (hPar_len a)
    have HQL := hide (hPar_len (a ++ b))
    have hsl : ((heapTree (a ++ b)).spots 0).length = a.length + b.length := by rw [T.spots_len, heapTree_size, List.length_append]
    have HSL := hide hsl
    have hwl : IntKind.i64.wrap ((a.length : Int) + (b.length : Int)) = (a.length : Int) + (b.length : Int) := IntWalk.i64_in _ (by omega)
    have hok : okL [0, 0] = true := rfl
    have hne : ((((heapTree (a ++ b)).spots 0).length : Int) != (a.length : Int) + (b.length : Int)) = false := by simp [hsl]
    clear h0 hma hmab hjo hofa hsl
    go_enter Try.func6, Try.ntmps6
    go_wp2_with fail
    refine (H1.out _ _ _ HA.out HB.out).mono ?_
    rintro e w1 ⟨v1, rfl, hr1, hb1⟩
    have k1 : Kp w w1 := hb1
    obtain ⟨B1, d1, rfl, hd1, hn1⟩ := hr1.shape
    have HR1 := hide hr1
    clear hr1 hb1
    go_wp2_with fail
    refine (H2.out _ _ (HA.out.kp k1)).mono ?_
    rintro e w2 ⟨v2, rfl, hr2, hb2⟩
    have k2 : Kp w1 w2 := hb2
    have HR2 := hide hr2
    clear hr2 hb2
    go_wp2_with fail
    refine (heapLives_any _).mono ?_
    rintro e w3 ⟨rfl, hb3⟩
    have k3 : Kp w2 w3 := hb3
    clear hb3
    go_wp2_with fail
    refine (ok_any [0, 0] _ _ (RD.block (l := [0, 0]) (heap_alloc_new w3 _) rfl (by simp [maxLen]))).mono ?_
    rintro e w4 ⟨rfl, rfl⟩
    have k4 : Kp w2 (w3.alloc (.cells #[.int .i64 0, .int .i64 0] 25)) := k3.alloc
    go_wp2_with fail
    refine (H3.out _ _ (HR2.out.kp k4)).mono ?_
    rintro e w5 ⟨v5, rfl, hr5, hb5⟩
    have k5 : Kp w1 w5 := k2.trans (k4.trans hb5)
    obtain ⟨B5, d5, rfl, hd5, hn5⟩ := hr5.shape
    have HR5 := hide hr5
    clear hr5 hb5
    go_wp2_with fail
    refine (H4.out _ _ (HR1.out.kp k5)).mono ?_
    rintro e w6 ⟨v6, rfl, hr6, hb6⟩
    have k6 : Kp w5 w6 := hb6
    have k60 : Kp w w6 := k1.trans (k5.trans k6)
    obtain ⟨B6, d6, rfl, hd6, hn6⟩ := hr6.shape
    have HR6 := hide hr6
    clear hr6 hb6
    go_wp2_with fail
    refine (ok_any [0, 0] _ _ (RD.block (l := [0, 0]) (heap_alloc_new w6 _) rfl (by simp [maxLen]))).mono ?_
    rintro e w7 ⟨rfl, rfl⟩
    have k7 : Kp w6 (w6.alloc (.cells #[.int .i64 0, .int .i64 0] 25)) := (Kp.refl w6).alloc
    go_wp2_with fail
    go_loopw [69] (J1 a w6) (fun i _ => a.length - (intOf i).toNat)
    case atStart => exact ⟨0, by omega, rfl, k7⟩
    case round =>
      obtain ⟨k, hk, rfl, hkp⟩ := hrel
      by_cases hlt : k < a.length
      · have hlp : k < (hPar a).length := by rw [HPL.out]; exact hlt
        have hlq : k < (hPar (a ++ b)).length := by rw [HQL.out, List.length_append]; omega
        obtain ⟨b5, o5, rfl, _, cp⟩ := (HR5.out.kp (k6.trans hkp)).int hlp
        obtain ⟨u, hu⟩ : ∃ u, u = (hPar a)[k] := ⟨_, rfl⟩
        rw [← hu] at cp
        have hu1 : -1 ≤ u := by
          have := (PT.chain0 (ptree a 0) (ptree_at a 0) k (by rw [ptree_size]; exact hlt)).ge
          rw [hu]; exact this
        have HM : Hid (0 ≤ u → u.toNat ∈ k :: (ptree (a ++ b) 0).anc k) := hide (fun h => by
          refine List.mem_cons_of_mem _ (par_anc a b k u.toNat hlt ?_)
          rw [← hu]; omega)
        have HU := hide hu
        clear hu
        have dp1 : decide (k < (hPar a).length) = true := by simp [hlp]
        obtain ⟨wo, rfl⟩ : ∃ wo : World, wo = wr := ⟨_, rfl⟩
        have HU1 := hide hu1
        clear hu1
        go_wp2_with fail
        go_loopw [15] (J2 (hPar (a ++ b)) u wo) (fun x _ => upN (hPar (a ++ b)) 300 (intOf x))
        case atStart =>
          refine ⟨k, k :: (ptree (a ++ b) 0).anc k, rfl, .cons k _ hlq (PT.chain0 _ (ptree_at _ _) k (by rw [ptree_size, List.length_append]; omega)), ?_, HM.out, rfl⟩
          have := PT.anc_len (ptree (a ++ b) 0) k
          rw [ptree_size, List.length_append] at this
          simp only [List.length_cons]; omega
        case round =>
          obtain ⟨x, s, rfl, hch, hsl, hmem, rfl⟩ := hrel
          have HCH := hide hch
          have HMEM := hide hmem
          clear hch hmem
          by_cases hxu : x = u
          · have t1 : (x != u) = false := by simp [hxu]
            clear hxu
            by_cases h0u : 0 ≤ u
            · have t2 : decide (0 ≤ u) = true := by simp [h0u]
              go_wp2
              go_roundw
              case rel => exact ⟨k + 1, by omega, by go_num, hkp⟩
              case measure => simp [intOf]; omega
            · have t2 : decide (0 ≤ u) = false := by simp; omega
              clear h0u
              go_wp2
              go_roundw
              case rel => exact ⟨k + 1, by omega, by go_num, hkp⟩
              case measure => simp [intOf]; omega
          · have hx0 : x ≠ -1 := by
              rintro rfl
              have h1 := HCH.out.neg
              have h2 := HU1.out
              have h3 := HMEM.out (by omega)
              rw [h1] at h3
              simp at h3
            obtain ⟨y, rfl⟩ : ∃ y : Nat, x = y := ⟨x.toNat, by have := HCH.out.ge; omega⟩
            obtain ⟨s', hyU, hs, hc'⟩ := HCH.out.at_
            obtain ⟨b6, o6, rfl, _, cq⟩ := (HR6.out.kp hkp).int hyU
            obtain ⟨u', hu'⟩ : ∃ u, u = (hPar (a ++ b))[y] := ⟨_, rfl⟩
            rw [← hu'] at cq
            have t1 : (((y : Nat) : Int) != u) = true := by simp [hxu]
            have t2 : decide ((0 : Int) ≤ (y : Int)) = true := by simp
            have by1 : (y : Int) < ((hPar (a ++ b)).length : Int) := by omega
            have by0 : (0 : Int) ≤ (y : Int) := by omega
            have hmeas : Hid (upN (hPar (a ++ b)) 300 u' < upN (hPar (a ++ b)) 300 (y : Int)) := hide (by
              rw [hu', hc'.upN 300 (by rw [hs] at hsl; simp at hsl; omega), HCH.out.upN 300 hsl, hs]; simp)
            have hrel2 : Hid (J2 (hPar (a ++ b)) u wo (.int .i64 u') wo) := hide ⟨u', s', rfl, by rw [hu']; exact hc', by rw [hs] at hsl; simp at hsl; omega, fun h => by
              have h3 := HMEM.out h
              rw [hs] at h3
              rcases List.mem_cons.1 h3 with h4 | h4
              · exact absurd (by omega) hxu
              · exact h4, rfl⟩
            clear hxu hx0 hs hc' hu' hsl
            go_wp2
            go_roundw
            case rel => exact hrel2.out
            case measure => simp only [intOf]; exact hmeas.out
      · have dp1 : decide (k < (hPar a).length) = false := by simp [HPL.out]; omega
        go_wp2
        go_ret
        exact ⟨rfl, (k60.trans hkp).bel⟩
  · have hje := joinOf_err a b h0
    have H1 := hide (fun W va vb h1 h2 => join_any a b va vb W h1 h2)
    have H2 := hide (fun W v h => heapOf_any a v W h)
    obtain ⟨J, hJ⟩ : ∃ J, J = joinOf a b := ⟨_, rfl⟩
    rw [← hJ] at H1 h0 hje
    obtain ⟨j, e0⟩ := J
    simp only at h0 hje
    subst hje
    have hok : okL [e0, (heapOf a).2] = false := by simp [okL, h0]
    have HOK := hide (fun W v h => ok_any [e0, (heapOf a).2] v W h)
    rw [hok] at HOK
    clear h0 hJ hok
    go_enter Try.func6, Try.ntmps6
    go_wp2_with fail
    refine (H1.out _ _ _ HA.out HB.out).mono ?_
    rintro e w1 ⟨v1, rfl, hr1, hb1⟩
    have k1 : Kp w w1 := hb1
    obtain ⟨B1, d1, rfl, hd1, hn1⟩ := hr1.shape
    clear hr1 hb1
    go_wp2_with fail
    refine (H2.out _ _ (HA.out.kp k1)).mono ?_
    rintro e w2 ⟨v2, rfl, hr2, hb2⟩
    have k2 : Kp w w2 := k1.trans hb2
    clear hr2 hb2
    go_wp2_with fail
    refine (heapLives_any _).mono ?_
    rintro e w3 ⟨rfl, hb3⟩
    have k3 : Kp w w3 := k2.trans hb3
    clear hb3
    go_wp2_with fail
    refine (HOK.out _ _ (RD.block (l := [e0, (heapOf a).2]) (heap_alloc_new w3 _) rfl (by simp [maxLen]))).mono ?_
    rintro e w4 ⟨rfl, rfl⟩
    have k4 : Kp w (w3.alloc (.cells #[.int .i64 e0, .int .i64 (heapOf a).2] 25)) := k3.alloc
    go_wp2_with fail
    refine (heapLives_any _).mono ?_
    rintro e w5 ⟨rfl, hb5⟩
    go_wp2
    go_ret
    exact ⟨rfl, (k4.trans hb5).bel⟩
end Go.Proofs.Ythbapflabjogkaa
