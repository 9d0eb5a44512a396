/-
  slices.rotateCmpFunc at spots: what it leaves. Conditions: the row is the call's own (OW).
-/
import Derived.Test.YthbapflabjogkaaHeapOneM29

namespace Go.Proofs.Ythbapflabjogkaa
open Go.ChangeShapes Go.WideShapes Go.ChangeAt Go.RowKit
set_option linter.unusedVariables false
set_option linter.unusedSimpArgs false

def RoR (Bk : Nat) (e : TypeId) (g N c m : Nat) (P V0 U0 Q : List IP) (w : World) (iv jv : Value) (wr : World) : Prop :=
  ∃ L U V R : List IP, iv = .int .i64 (U.length : Int) ∧ jv = .int .i64 (V.length : Int) ∧ 0 < U.length ∧ 0 < V.length ∧ P.length + L.length + U.length = m ∧ L ++ (V ++ U) ++ R = V0 ++ U0 ∧
    OW wr Bk e ePair (.slice (some ⟨g, 0, none⟩) N c) (P ++ L ++ U ++ V ++ R ++ Q) ∧ Kf (fun k => k = g) w wr
set_option maxRecDepth 100000 in
set_option maxHeartbeats 8000000 in
theorem rotate_any (P U V Q : List IP) (a m b N c g B : Nat) (fv : Value) (w : World) (ha : a = P.length) (hm : m = a + U.length) (hb : b = m + V.length) (hU : 0 < U.length) (hV : 0 < V.length) (hn : N ≤ 1000)
    (ho : OW w B 37 ePair (.slice (some ⟨g, 0, none⟩) N c) (P ++ U ++ V ++ Q)) :
    Calls Try.prog 47 #[.slice (some ⟨g, 0, none⟩) N c, .int .i64 (a : Int), .int .i64 (m : Int), .int .i64 (b : Int), fv] w (SlPost B 37 g N c (P ++ V ++ U ++ Q) w) := by
  have hNl : N = P.length + U.length + V.length + Q.length := by rw [ho.len]; simp only [List.length_append]
  have HREL : Hid (RoR B 37 g N c m P V U Q w (.int .i64 (U.length : Int)) (.int .i64 (V.length : Int)) w) := hide ⟨[], U, V, [], rfl, rfl, hU, hV, by simp <;> omega, by simp, by simpa using ho, Kf.refl _ _⟩
  have w1 : IntKind.i64.wrap ((m : Int) - (a : Int)) = (U.length : Int) := by rw [IntWalk.i64_in _ (by omega)]; omega
  have w2 : IntKind.i64.wrap ((b : Int) - (m : Int)) = (V.length : Int) := by rw [IntWalk.i64_in _ (by omega)]; omega
  have HN := hide hNl
  clear ho hNl ha hm hb hU hV
  go_enter Try.func47, Try.ntmps47
  go_wp2
  go_loopw [10, 11] (RoR B 37 g N c m P V U Q w) (fun iv jv _ => (intOf iv).toNat + (intOf jv).toNat)
  case atStart => exact HREL.out
  case round =>
    clear HREL w1 w2
    obtain ⟨L, X, Y, R, rfl, rfl, hX, hY, hm, htg, ho, hkf⟩ := hrel
    have hlen := ho.len
    simp only [List.length_append] at hlen
    have HO := hide ho
    have HKF := hide hkf
    have HTG := hide htg
    have HM := hide hm
    have HL := hide hlen
    have HXY := hide (And.intro hX hY)
    clear ho hkf htg
    obtain ⟨i, hi⟩ : ∃ i, i = X.length := ⟨_, rfl⟩
    obtain ⟨j, hj⟩ : ∃ i, i = Y.length := ⟨_, rfl⟩
    obtain ⟨D, hD⟩ : ∃ d, d = m - i := ⟨_, rfl⟩
    have wD : IntKind.i64.wrap ((m : Int) - (i : Int)) = (D : Int) := by rw [IntWalk.i64_in _ (by omega)]; omega
    by_cases hij : i = j
    · have t0 : ((i : Int) != (i : Int)) = false := by simp
      have HSW := hide (fun fv => swapRange_any (P ++ L) X [] Y (R ++ Q) D m i N c g B fv wr (by simp <;> omega) (by simp <;> omega) (by omega) hi hn (by simpa using HO.out))
      have HIJ := hide hij
      have hij2 : (Y.length : Int) = (i : Int) := by omega
      have hij3 : (X.length : Int) = (i : Int) := by omega
      rw [hij2, hij3]
      clear hX hY hm hlen hi hj hij hD hij2 hij3
      go_wp2_with fail
      with_reducible refine (HSW.out _).mono ?_
      rintro e w2 ⟨rfl, ho2, hk2⟩
      have HO2 := hide ho2
      have HK2 := hide hk2
      clear ho2 hk2
      go_wp2
      exact bodyPost_ret (v := .tuple #[]) (by simp [results, Try.results47, go_sem]) rfl ⟨rfl, by
        have h := HO2.out
        have e : P ++ L ++ Y ++ [] ++ X ++ (R ++ Q) = P ++ (L ++ (Y ++ X) ++ R) ++ Q := by simp
        rw [e, HTG.out] at h
        simpa using h, HKF.out.trans HK2.out (fun _ _ h => h)⟩
    · have t0 : ((i : Int) != (j : Int)) = true := by simp <;> omega
      by_cases hgt : j < i
      · have t1 : decide ((j : Int) < (i : Int)) = true := by simp <;> omega
        obtain ⟨I2, hI2⟩ : ∃ k, k = i - j := ⟨_, rfl⟩
        have wI : IntKind.i64.wrap ((i : Int) - (j : Int)) = (I2 : Int) := by rw [IntWalk.i64_in _ (by omega)]; omega
        have hXX : X.take j ++ X.drop j = X := List.take_append_drop _ _
        have HSW := hide (fun fv => swapRange_any (P ++ L) (X.take j) (X.drop j) Y (R ++ Q) D m j N c g B fv wr (by simp <;> omega) (by simp <;> omega) (by simp <;> omega) (by simp <;> omega) hn (by
          have h := HO.out
          rw [← hXX] at h
          simpa using h))
        have hij2 : (Y.length : Int) = (j : Int) := by omega
        have hij3 : (X.length : Int) = (i : Int) := by omega
        have HI := hide hi
        have HJ := hide hj
        have HI2 := hide hI2
        have HXX := hide hXX
        rw [hij2, hij3]
        clear hX hY hm hlen hi hj hij hD hij2 hij3 hI2 hXX
        go_wp2_with fail
        with_reducible refine (HSW.out _).mono ?_
        rintro e w2 ⟨rfl, ho2, hk2⟩
        have HO2 := hide ho2
        have HK2 := hide hk2
        clear ho2 hk2
        go_wp2
        go_roundw
        case rel =>
          have h1 := HI.out
          have h2 := HJ.out
          have h3 := HI2.out
          have h4 := HM.out
          have h5 := HXY.out
          exact ⟨L ++ Y, X.drop j, X.take j, R, by congr 2; simp <;> omega, by congr 2; simp <;> omega, by simp <;> omega, by simp <;> omega, by simp <;> omega, by
            rw [← HTG.out, List.append_assoc L Y, HXX.out], by simpa using HO2.out, HKF.out.trans HK2.out (fun _ _ h => h)⟩
        case measure => have h1 := HI.out; have h2 := HJ.out; have h3 := HI2.out; have h5 := HXY.out; simp [intOf]; omega
      · have t1 : decide ((j : Int) < (i : Int)) = false := by simp <;> omega
        obtain ⟨I2, hI2⟩ : ∃ k, k = j - i := ⟨_, rfl⟩
        obtain ⟨S1, hS1⟩ : ∃ k, k = m + j := ⟨_, rfl⟩
        obtain ⟨S2, hS2⟩ : ∃ k, k = m + j - i := ⟨_, rfl⟩
        have wI : IntKind.i64.wrap ((j : Int) - (i : Int)) = (I2 : Int) := by rw [IntWalk.i64_in _ (by omega)]; omega
        have wS1 : IntKind.i64.wrap ((m : Int) + (j : Int)) = (S1 : Int) := by rw [IntWalk.i64_in _ (by omega)]; omega
        have wS2 : IntKind.i64.wrap ((S1 : Int) - (i : Int)) = (S2 : Int) := by rw [IntWalk.i64_in _ (by omega)]; omega
        have hYY : Y.take (j - i) ++ Y.drop (j - i) = Y := List.take_append_drop _ _
        have HSW := hide (fun fv => swapRange_any (P ++ L) X (Y.take (j - i)) (Y.drop (j - i)) (R ++ Q) D S2 i N c g B fv wr (by simp <;> omega) (by simp <;> omega) (by simp <;> omega) hi hn (by
          have h := HO.out
          rw [← hYY] at h
          simpa using h))
        have hij2 : (Y.length : Int) = (j : Int) := by omega
        have hij3 : (X.length : Int) = (i : Int) := by omega
        have HI := hide hi
        have HJ := hide hj
        have HI2 := hide hI2
        have HYY := hide hYY
        have HGT := hide (And.intro hgt hij)
        rw [hij2, hij3]
        clear hX hY hm hlen hi hj hij hD hij2 hij3 hI2 hYY hS1 hS2
        go_wp2_with fail
        with_reducible refine (HSW.out _).mono ?_
        rintro e w2 ⟨rfl, ho2, hk2⟩
        have HO2 := hide ho2
        have HK2 := hide hk2
        clear ho2 hk2
        go_wp2
        go_roundw
        case rel =>
          have h1 := HI.out
          have h2 := HJ.out
          have h3 := HI2.out
          have h4 := HM.out
          have h5 := HXY.out
          have h6 := HGT.out
          exact ⟨L, Y.drop (j - i), Y.take (j - i), X ++ R, by congr 2; simp <;> omega, by congr 2; simp <;> omega, by simp <;> omega, by simp <;> omega, by simp <;> omega, by
            rw [HYY.out, ← HTG.out]; simp, by simpa using HO2.out, HKF.out.trans HK2.out (fun _ _ h => h)⟩
        case measure => have h1 := HI.out; have h2 := HJ.out; have h3 := HI2.out; have h5 := HXY.out; have h6 := HGT.out; simp [intOf]; omega
end Go.Proofs.Ythbapflabjogkaa
