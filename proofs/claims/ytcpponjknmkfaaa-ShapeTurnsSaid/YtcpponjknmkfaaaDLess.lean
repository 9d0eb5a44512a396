/-
  hedglaw.depthsLess: what it answers. Conditions: the lists read as spots (RD).
-/
import Derived.Test.YtcpponjknmkfaaaAllCmp
namespace Go.Proofs.Ytcpponjknmkfaaa
open Go.ChangeShapes Go.WideShapes Go.ChangeAt Go.RowKit
set_option linter.unusedVariables false
set_option linter.unusedSimpArgs false

def DlRel (a b : List IP) (M : Nat) (w : World) (iv : Value) (wr : World) : Prop := ∃ k : Nat, k ≤ M ∧ iv = .int .i64 (k : Int) ∧ cmpD (a.drop k) (b.drop k) = cmpD a b ∧ Kp w wr
set_option maxRecDepth 100000 in
set_option maxHeartbeats 4000000 in
theorem depthsLess_any (a b : List IP) (v u : Value) (w : World) (hr : RD w ePair v a) (hu : RD w ePair u b) : Calls Try.prog 32 #[v, u] w (Ret (.bool (decide (cmpD a b < 0))) w) := by
  obtain ⟨A1, c1, rfl, hc1, hm1⟩ := hr.shape
  obtain ⟨A2, c2, rfl, hc2, hm2⟩ := hu.shape
  have HR := hide hr
  have HU := hide hu
  clear hr hu
  by_cases hba : b.length < a.length
  · obtain ⟨M, hM⟩ : ∃ M : Nat, M = b.length := ⟨_, rfl⟩
    have HM : Hid (M ≤ a.length ∧ M ≤ b.length ∧ (M = a.length ∨ M = b.length)) := hide (by omega)
    go_enter Try.func32, Try.ntmps32
    go_wp2_with fail
    clear hba
    have HMM := hide hM
    clear hM
    go_loopw [11] (DlRel a b M w) (fun i _ => M - (intOf i).toNat)
    case atStart => exact ⟨0, by omega, rfl, rfl, Kp.refl _⟩
    case round =>
      obtain ⟨k, hk, rfl, he, hkp⟩ := hrel
      have HK := hide hkp
      rw [← HMM.out]
      by_cases hlt : k < M
      · obtain ⟨q1, q2, _⟩ := HM.out
        have hka : k < a.length := by omega
        have hkb : k < b.length := by omega
        have d1 : decide (k < M) = true := by simp [hlt]
        obtain ⟨ba, oa, rfl, _, x0, x1⟩ := (HR.out.kp hkp).pair hka
        obtain ⟨bb, ob, rfl, _, y0, y1⟩ := (HU.out.kp hkp).pair hkb
        have hdr := cmpD_drop hka hkb
        rw [he] at hdr
        obtain ⟨x, hx⟩ : ∃ x, x = (a[k]).2 := ⟨_, rfl⟩
        obtain ⟨y, hy⟩ : ∃ y, y = (b[k]).2 := ⟨_, rfl⟩
        rw [← hx] at x1 hdr
        rw [← hy] at y1 hdr
        have s1 : IntKind.i64.wrap ((k : Int) + 1) = ((k + 1 : Nat) : Int) := by rw [IntWalk.i64_in _ (by omega)]; omega
        by_cases hxy : x = y
        · have d2 : (x != y) = false := by simp [hxy]
          have HN : Hid (cmpD (a.drop (k + 1)) (b.drop (k + 1)) = cmpD a b) := hide (by
            rw [hdr, if_neg]
            rcases cmpI_cases x y with ⟨h, _⟩ | ⟨_, h⟩ | ⟨h, _⟩
            · omega
            · simp [h]
            · omega)
          clear hdr he hkp hx hy hxy q1 q2
          go_wp2_with fail
          go_quiet (fail)
          go_wp2
          go_roundw
          case rel => exact ⟨k + 1, by omega, by go_num, HN.out, HK.out.drewN⟩
          case measure => simp [intOf]; omega
        · have d2 : (x != y) = true := by simp [hxy]
          have HN : Hid (decide (cmpD a b < 0) = decide (x < y)) := hide (by
            rw [hdr]
            rcases cmpI_cases x y with ⟨h, h2⟩ | ⟨h, _⟩ | ⟨h, h2⟩
            · rw [h2]; simp [h]
            · exact absurd h hxy
            · rw [h2]; simp; omega)
          clear hdr he hkp hx hy hxy q1 q2
          go_wp2_with fail
          go_quiet (fail)
          go_wp2_with fail
          go_quiet (fail)
          go_wp2
          go_ret
          exact ⟨by rw [HN.out]; rfl, (HK.out.drewN.drewN).bel⟩
      · have hkM : k = M := by omega
        have d1 : decide (k < M) = false := by simp [hlt]
        have HN : Hid (decide (cmpD a b < 0) = decide (a.length < b.length)) := hide (by
          obtain ⟨q1, q2, q3⟩ := HM.out
          rw [← he]
          rcases Nat.lt_trichotomy a.length b.length with h | h | h
          · rw [List.drop_of_length_le (show a.length ≤ k by omega), List.drop_eq_getElem_cons (show k < b.length by omega)]
            simp [cmpD, h]
          · rw [List.drop_of_length_le (show a.length ≤ k by omega), List.drop_of_length_le (show b.length ≤ k by omega)]
            simp [cmpD, h]
          · rw [List.drop_of_length_le (show b.length ≤ k by omega), List.drop_eq_getElem_cons (show k < a.length by omega)]
            simp [cmpD]; omega)
        clear he hkp hkM
        go_wp2
        go_ret
        exact ⟨by rw [HN.out, ← HMM.out]; rfl, HK.out.bel⟩
  · obtain ⟨M, hM⟩ : ∃ M : Nat, M = a.length := ⟨_, rfl⟩
    have HM : Hid (M ≤ a.length ∧ M ≤ b.length ∧ (M = a.length ∨ M = b.length)) := hide (by omega)
    go_enter Try.func32, Try.ntmps32
    go_wp2_with fail
    clear hba
    have HMM := hide hM
    clear hM
    go_loopw [11] (DlRel a b M w) (fun i _ => M - (intOf i).toNat)
    case atStart => exact ⟨0, by omega, rfl, rfl, Kp.refl _⟩
    case round =>
      obtain ⟨k, hk, rfl, he, hkp⟩ := hrel
      have HK := hide hkp
      rw [← HMM.out]
      by_cases hlt : k < M
      · obtain ⟨q1, q2, _⟩ := HM.out
        have hka : k < a.length := by omega
        have hkb : k < b.length := by omega
        have d1 : decide (k < M) = true := by simp [hlt]
        obtain ⟨ba, oa, rfl, _, x0, x1⟩ := (HR.out.kp hkp).pair hka
        obtain ⟨bb, ob, rfl, _, y0, y1⟩ := (HU.out.kp hkp).pair hkb
        have hdr := cmpD_drop hka hkb
        rw [he] at hdr
        obtain ⟨x, hx⟩ : ∃ x, x = (a[k]).2 := ⟨_, rfl⟩
        obtain ⟨y, hy⟩ : ∃ y, y = (b[k]).2 := ⟨_, rfl⟩
        rw [← hx] at x1 hdr
        rw [← hy] at y1 hdr
        have s1 : IntKind.i64.wrap ((k : Int) + 1) = ((k + 1 : Nat) : Int) := by rw [IntWalk.i64_in _ (by omega)]; omega
        by_cases hxy : x = y
        · have d2 : (x != y) = false := by simp [hxy]
          have HN : Hid (cmpD (a.drop (k + 1)) (b.drop (k + 1)) = cmpD a b) := hide (by
            rw [hdr, if_neg]
            rcases cmpI_cases x y with ⟨h, _⟩ | ⟨_, h⟩ | ⟨h, _⟩
            · omega
            · simp [h]
            · omega)
          clear hdr he hkp hx hy hxy q1 q2
          go_wp2_with fail
          go_quiet (fail)
          go_wp2
          go_roundw
          case rel => exact ⟨k + 1, by omega, by go_num, HN.out, HK.out.drewN⟩
          case measure => simp [intOf]; omega
        · have d2 : (x != y) = true := by simp [hxy]
          have HN : Hid (decide (cmpD a b < 0) = decide (x < y)) := hide (by
            rw [hdr]
            rcases cmpI_cases x y with ⟨h, h2⟩ | ⟨h, _⟩ | ⟨h, h2⟩
            · rw [h2]; simp [h]
            · exact absurd h hxy
            · rw [h2]; simp; omega)
          clear hdr he hkp hx hy hxy q1 q2
          go_wp2_with fail
          go_quiet (fail)
          go_wp2_with fail
          go_quiet (fail)
          go_wp2
          go_ret
          exact ⟨by rw [HN.out]; rfl, (HK.out.drewN.drewN).bel⟩
      · have hkM : k = M := by omega
        have d1 : decide (k < M) = false := by simp [hlt]
        have HN : Hid (decide (cmpD a b < 0) = decide (a.length < b.length)) := hide (by
          obtain ⟨q1, q2, q3⟩ := HM.out
          rw [← he]
          rcases Nat.lt_trichotomy a.length b.length with h | h | h
          · rw [List.drop_of_length_le (show a.length ≤ k by omega), List.drop_eq_getElem_cons (show k < b.length by omega)]
            simp [cmpD, h]
          · rw [List.drop_of_length_le (show a.length ≤ k by omega), List.drop_of_length_le (show b.length ≤ k by omega)]
            simp [cmpD, h]
          · rw [List.drop_of_length_le (show b.length ≤ k by omega), List.drop_eq_getElem_cons (show k < a.length by omega)]
            simp [cmpD]; omega)
        clear he hkp hkM
        go_wp2
        go_ret
        exact ⟨by rw [HN.out, ← HMM.out]; rfl, HK.out.bel⟩
end Go.Proofs.Ytcpponjknmkfaaa
