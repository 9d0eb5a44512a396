/-
  heap.Join: what it answers. Conditions: the lists read as a and b (RD).
-/
import Derived.Test.YthbapflabjogkaaHeapOf
import Derived.Test.YthbapflabjogkaaConcat
namespace Go.Proofs.Ythbapflabjogkaa
open Go.ChangeShapes Go.WideShapes Go.ChangeAt Go.RowKit
set_option linter.unusedVariables false
set_option linter.unusedSimpArgs false

def meets (a b : List IP) : Bool := match a.getLast?, b.head? with
  | some x, some y => decide (y.1 ≤ x.1)
  | _, _ => false
def joinOf (a b : List IP) : List IP × Int :=
  if mapRight a ≠ 0 then ([], mapRight a) else if mapRight b ≠ 0 then ([], mapRight b) else if meets a b then ([], 3) else heapOf (a ++ b)

def JRel (a b : List IP) (w : World) (i : Value) (wr : World) : Prop :=
  (i = .int .i64 0 ∨ (i = .int .i64 1 ∧ mapRight a = 0) ∨ (i = .int .i64 2 ∧ mapRight a = 0 ∧ mapRight b = 0)) ∧ Kp w wr

set_option maxRecDepth 100000 in
set_option maxHeartbeats 2000000 in
theorem join_any (a b : List IP) (va vb : Value) (w : World) (ha : RD w ePair va a) (hb : RD w ePair vb b) : Calls Try.prog 9 #[va, vb] w (Ret2 ePair (joinOf a b) w) := by
  obtain ⟨A1, c1, rfl, hc1, hm1⟩ := ha.shape
  obtain ⟨A2, c2, rfl, hc2, hm2⟩ := hb.shape
  have i0 : ∀ w, (Instr.index 53 (.agg #[.slice A1 a.length c1, .slice A2 b.length c2]) (.int .i64 0)).run Try.prog w = .ok (.slice A1 a.length c1) w := fun _ => by rfl
  have i1 : ∀ w, (Instr.index 53 (.agg #[.slice A1 a.length c1, .slice A2 b.length c2]) (.int .i64 1)).run Try.prog w = .ok (.slice A2 b.length c2) w := fun _ => by rfl
  have HA := hide ha
  have HB := hide hb
  clear ha hb
  go_enter Try.func9, Try.ntmps9
  go_wp2
  go_loopw [12] (JRel a b w) (fun i _ => 2 - (intOf i).toNat)
  case atStart => exact ⟨.inl rfl, Kp.refl _⟩
  case round =>
    obtain ⟨h, hkp⟩ := hrel
    rcases h with rfl | ⟨rfl, h1⟩ | ⟨rfl, h1, h2⟩
    · by_cases h1 : mapRight a = 0
      · have hb0 : (mapRight a != 0) = false := by simp [h1]
        have H1 := hide h1
        clear h1
        go_wp2_with (go_at_call 11; refine (hcheck_any a _ _ (HA.out.kp hkp)).mono ?_; rintro e w1 ⟨rfl, hb1⟩)
        go_roundw
        case rel => exact ⟨.inr (.inl ⟨rfl, H1.out⟩), hkp.trans hb1⟩
        case measure => simp [intOf]
      · have hb0 : (mapRight a != 0) = true := by simp [h1]
        have H1 : Hid (joinOf a b = ([], mapRight a)) := hide (by rw [joinOf, if_pos h1])
        clear h1
        go_wp2_with (go_at_call 11; refine (hcheck_any a _ _ (HA.out.kp hkp)).mono ?_; rintro e w1 ⟨rfl, hb1⟩)
        go_ret2
        exact ⟨_, by rw [H1.out]; rfl, by rw [H1.out]; exact RD.nil, (hkp.trans hb1).bel⟩
    · by_cases h2 : mapRight b = 0
      · have hb0 : (mapRight b != 0) = false := by simp [h2]
        have H1 := hide h1
        have H2 := hide h2
        clear h1 h2
        go_wp2_with (go_at_call 11; refine (hcheck_any b _ _ (HB.out.kp hkp)).mono ?_; rintro e w1 ⟨rfl, hb1⟩)
        go_roundw
        case rel => exact ⟨.inr (.inr ⟨rfl, H1.out, H2.out⟩), hkp.trans hb1⟩
        case measure => simp [intOf]
      · have hb0 : (mapRight b != 0) = true := by simp [h2]
        have H1 : Hid (joinOf a b = ([], mapRight b)) := hide (by rw [joinOf, if_neg (by simp [h1]), if_pos h2])
        clear h1 h2
        go_wp2_with (go_at_call 11; refine (hcheck_any b _ _ (HB.out.kp hkp)).mono ?_; rintro e w1 ⟨rfl, hb1⟩)
        go_ret2
        exact ⟨_, by rw [H1.out]; rfl, by rw [H1.out]; exact RD.nil, (hkp.trans hb1).bel⟩
    · have H1 : Hid (joinOf a b = if meets a b then ([], 3) else heapOf (a ++ b)) := hide (by rw [joinOf, if_neg (by simp [h1]), if_neg (by simp [h2])])
      have hla := mapRight_len a h1
      have hlb := mapRight_len b h2
      have HF : Hid ([a, b].flatten.length ≤ 1073741824) := hide (by simp; omega)
      clear h1 h2 i0 i1
      rcases Nat.eq_zero_or_pos a.length with ha0 | ha0
      · have ha' : a = [] := List.eq_nil_of_length_eq_zero ha0
        have H2 : Hid (joinOf a b = heapOf (a ++ b)) := hide (by rw [H1.out, ha']; rfl)
        have hg1 : decide (0 < a.length) = false := by simp [ha0]
        clear ha' ha0
        go_wp2_with fail
        go_quiet (fail)
        go_wp2_with fail
        refine (concat_Pair [a, b] _ _ (RDS.new2 (by simp) (HA.out.kp (by first | exact hkp | exact Kp.drewN hkp)) (HB.out.kp (by first | exact hkp | exact Kp.drewN hkp))) HF.out).mono ?_
        rintro e w2 ⟨v2, rfl, ho2, hb2⟩
        have HO2 := hide ho2.rd
        clear ho2
        go_wp2_with fail
        refine (heapOf_any [a, b].flatten v2 _ HO2.out).mono ?_
        rintro e w3 ⟨v3, rfl, hr3, hb3⟩
        have HR3 := hide hr3
        clear hr3
        go_wp2
        go_ret2
        refine ⟨v3, by rw [H2.out]; simp, ?_, Kp.bel (by (focus ((repeat (first | (with_reducible assumption) | (with_reducible exact Kp.refl _) | (with_reducible apply Kp.drew) | (with_reducible apply Kp.drewN) | ((with_reducible apply Kp.setR); (focus (first | (with_reducible assumption) | (simp; done) | (simp; omega)))) | (with_reducible apply Kp.alloc) | ((with_reducible apply Kp.call); (with_reducible assumption)) | ((with_reducible apply Kp.app); (with_reducible assumption)))); done)))⟩
        have h := HR3.out
        simp only [List.flatten_cons, List.flatten_nil, List.append_nil] at h
        rw [H2.out]
        exact h
      · have hg1 : decide (0 < a.length) = true := by simp; omega
        rcases Nat.eq_zero_or_pos b.length with hb0 | hb0
        · have hb' : b = [] := List.eq_nil_of_length_eq_zero hb0
          have H2 : Hid (joinOf a b = heapOf (a ++ b)) := hide (by
            have hm : meets a b = false := by rw [hb']; unfold meets; cases a.getLast? <;> rfl
            rw [H1.out, hm]; rfl)
          have hg2 : decide (0 < b.length) = false := by simp [hb0]
          clear hb' hb0
          go_wp2_with fail
          go_quiet (fail)
          go_wp2_with fail
          refine (concat_Pair [a, b] _ _ (RDS.new2 (by simp) (HA.out.kp (by first | exact hkp | exact Kp.drewN hkp)) (HB.out.kp (by first | exact hkp | exact Kp.drewN hkp))) HF.out).mono ?_
          rintro e w2 ⟨v2, rfl, ho2, hb2⟩
          have HO2 := hide ho2.rd
          clear ho2
          go_wp2_with fail
          refine (heapOf_any [a, b].flatten v2 _ HO2.out).mono ?_
          rintro e w3 ⟨v3, rfl, hr3, hb3⟩
          have HR3 := hide hr3
          clear hr3
          go_wp2
          go_ret2
          refine ⟨v3, by rw [H2.out]; simp, ?_, Kp.bel (by (focus ((repeat (first | (with_reducible assumption) | (with_reducible exact Kp.refl _) | (with_reducible apply Kp.drew) | (with_reducible apply Kp.drewN) | ((with_reducible apply Kp.setR); (focus (first | (with_reducible assumption) | (simp; done) | (simp; omega)))) | (with_reducible apply Kp.alloc) | ((with_reducible apply Kp.call); (with_reducible assumption)) | ((with_reducible apply Kp.app); (with_reducible assumption)))); done)))⟩
          have h := HR3.out
          simp only [List.flatten_cons, List.flatten_nil, List.append_nil] at h
          rw [H2.out]
          exact h
        · have hg2 : decide (0 < b.length) = true := by simp; omega
          obtain ⟨ba, oa, rfl, _, ca, _⟩ := (HA.out.kp hkp).pair (k := a.length - 1) (by omega)
          obtain ⟨bb, ob, rfl, _, cb, _⟩ := (HB.out.kp hkp).pair (k := 0) hb0
          simp only [Nat.zero_mul, Nat.add_zero] at cb
          have hmt : meets a b = decide (b[0].1 ≤ a[a.length - 1].1) := by
            unfold meets
            rw [List.getLast?_eq_getElem?, List.head?_eq_getElem?, List.getElem?_eq_getElem (by omega), List.getElem?_eq_getElem hb0]
          have hw1 : IntKind.i64.wrap ((a.length : Int) - 1) = (a.length : Int) - 1 := IntWalk.i64_in _ (by omega)
          have hw2 : (0 : Int) ≤ (a.length : Int) - 1 := by omega
          have hw3 : (a.length : Int) - 1 < (a.length : Int) := by omega
          have hw4 : ((a.length : Int) - 1).toNat = a.length - 1 := by omega
          by_cases hge : b[0].1 ≤ a[a.length - 1].1
          · have H2 : Hid (joinOf a b = ([], 3)) := hide (by rw [H1.out, hmt, decide_eq_true hge]; rfl)
            clear hmt
            go_wp2_with fail
            go_quiet (fail)
            go_wp2
            go_ret2
            exact ⟨_, by rw [H2.out]; rfl, by rw [H2.out]; exact RD.nil, (Kp.drewN hkp).bel⟩
          · have H2 : Hid (joinOf a b = heapOf (a ++ b)) := hide (by rw [H1.out, hmt, decide_eq_false hge]; rfl)
            clear hmt
            go_wp2_with fail
            go_quiet (fail)
            go_wp2_with fail
            refine (concat_Pair [a, b] _ _ (RDS.new2 (by simp) (HA.out.kp (by first | exact hkp | exact Kp.drewN hkp)) (HB.out.kp (by first | exact hkp | exact Kp.drewN hkp))) HF.out).mono ?_
            rintro e w2 ⟨v2, rfl, ho2, hb2⟩
            have HO2 := hide ho2.rd
            clear ho2
            go_wp2_with fail
            refine (heapOf_any [a, b].flatten v2 _ HO2.out).mono ?_
            rintro e w3 ⟨v3, rfl, hr3, hb3⟩
            have HR3 := hide hr3
            clear hr3
            go_wp2
            go_ret2
            refine ⟨v3, by rw [H2.out]; simp, ?_, Kp.bel (by (focus ((repeat (first | (with_reducible assumption) | (with_reducible exact Kp.refl _) | (with_reducible apply Kp.drew) | (with_reducible apply Kp.drewN) | ((with_reducible apply Kp.setR); (focus (first | (with_reducible assumption) | (simp; done) | (simp; omega)))) | (with_reducible apply Kp.alloc) | ((with_reducible apply Kp.call); (with_reducible assumption)) | ((with_reducible apply Kp.app); (with_reducible assumption)))); done)))⟩
            have h := HR3.out
            simp only [List.flatten_cons, List.flatten_nil, List.append_nil] at h
            rw [H2.out]
            exact h
end Go.Proofs.Ythbapflabjogkaa
