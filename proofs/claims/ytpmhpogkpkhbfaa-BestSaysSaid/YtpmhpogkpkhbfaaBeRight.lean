/-
  hedgref.BestRight: what it answers. Conditions: both lists read as ints (RD).
-/
import Derived.Test.YtpmhpogkpkhbfaaBRight
import Derived.Test.YtpmhpogkpkhbfaaChk
import Derived.Test.YtpmhpogkpkhbfaaOwn
import Derived.Test.YtpmhpogkpkhbfaaArr
import Derived.Test.YtpmhpogkpkhbfaaOutVar
namespace Go.Proofs.Ytpmhpogkpkhbfaa
open Go.ChangeShapes Go.WideShapes Go.ChangeAt Go.RowKit
set_option linter.unusedVariables false
set_option linter.unusedSimpArgs false

theorem inR_app (a b : List Int) : inR (a ++ b) = (inR a && inR b) := by simp [inR]
set_option maxRecDepth 100000 in
set_option maxHeartbeats 8000000 in
theorem bestRight_any (h g : List Int) (v u : Value) (w : World) (hr : RD w eInt v h) (hu : RD w eInt u g) : Calls Try.prog 15 #[v, u] w (Ret (.int .i64 (brR h g)) w) := by
  obtain ⟨A1, c1, rfl, _, _⟩ := hr.shape
  obtain ⟨A2, c2, rfl, _, _⟩ := hu.shape
  have HR := hide hr
  have HU := hide hu
  clear hr hu
  by_cases h1 : h.length > 20
  · have HE : Hid (brR h g = 2) := hide (by rw [brR, if_pos h1])
    have d1 : decide ((20 : Int) < (h.length : Int)) = true := decide_eq_true (by omega)
    clear h1
    go_enter Try.func15, Try.ntmps15
    go_wp2
    go_ret
    exact ⟨by rw [HE.out]; rfl, Below.refl _ _⟩
  · have d1 : decide ((20 : Int) < (h.length : Int)) = false := decide_eq_false (by omega)
    have s1 : IntKind.i64.wrap ((h.length : Int) + 1) = (h.length : Int) + 1 := IntWalk.i64_in _ (by omega)
    by_cases h2 : g.length ≠ h.length + 1
    · have HE : Hid (brR h g = 3) := hide (by rw [brR, if_neg h1, if_pos h2])
      have d2 : ((g.length : Int) != (h.length : Int) + 1) = true := by simp; omega
      clear h1 h2
      go_enter Try.func15, Try.ntmps15
      go_wp2
      go_ret
      exact ⟨by rw [HE.out]; rfl, Below.refl _ _⟩
    · have d2 : ((g.length : Int) != (h.length : Int) + 1) = false := by simp; omega
      have HE : Hid (brR h g = if inR (([] ++ h) ++ g) = true then 0 else 1) := hide (by rw [brR, if_neg h1, if_neg h2, inR_app, List.nil_append]; simp)
      have HN1 : Hid ((([] : List Int).length + h.length) * 8 ≤ 140737488355328) := hide (by simp; omega)
      have HN2 : Hid (([] : List Int).length + h.length ≤ maxLen) := hide (by simp [maxLen]; omega)
      have HN3 : Hid ((([] ++ h : List Int).length + g.length) * 8 ≤ 140737488355328) := hide (by simp; omega)
      have HN4 : Hid (([] ++ h : List Int).length + g.length ≤ maxLen) := hide (by simp [maxLen]; omega)
      clear h1 h2
      go_enter Try.func15, Try.ntmps15
      go_wp2_with (first
        | (at_builtin; (with_reducible refine list_app (B := w.heap.size) (l := ([] : List Int)) (m := h) row_int (.slice (some ⟨w.heap.size, 0, none⟩) 0 0) ?_ (.tmp 16) (.tmp 17) ?_ ?_ ?_ ?_ HN1.out HN2.out ?_ ?_); (with_reducible rfl); (with_reducible rfl); rfl; (exact OW.emptyE rfl (Nat.le_refl _)); (exact HR.out.alloc _); (simp); intro v3 w3 ho3 hg3 hat3; have k3 : Kp w w3 := Kp.app hg3 (Kp.refl w).alloc (fun q hq => by simp [Value.ownBlock] at hq; omega); obtain ⟨A5, N5, c5, rfl⟩ := ho3.rd.slice; have k3' := k3.size)
        | (at_builtin; (with_reducible refine list_app (B := w.heap.size) (l := ([] ++ h)) (m := g) row_int (.slice A5 N5 c5) ?_ (.tmp 18) (.tmp 19) ?_ ?_ ?_ ?_ HN3.out HN4.out ?_ ?_); (with_reducible rfl); (with_reducible rfl); rfl; (exact ho3); (exact HU.out.kp k3); (exact k3'); intro v4 w4 ho4 hg4 hat4; have k4 : Kp w w4 := Kp.app hg4 k3 (fun q hq => (ho3.lt q hq).1); have hr4 := ho4.rd; obtain ⟨A6, c6, rfl, hc6, hm6⟩ := hr4.shape; obtain ⟨X, hX⟩ : ∃ X, X = ([] ++ h) ++ g := ⟨_, rfl⟩; rw [← hX] at HE hr4 hc6; simp only [← hX]; have HRX := hide hr4; have HK4 := hide k4; clear hX ho3 ho4 hg3 hg4 hat3 hat4 k3 k3' k4 hr4 HN1 HN2 HN3 HN4))
      go_loopw [22] (RiRel X w4) (fun j _ => X.length - (intOf j).toNat)
      case atStart => exact ⟨0, by omega, rfl, by simp [inR], rfl⟩
      case round =>
        obtain ⟨j, hj, rfl, hin, rfl⟩ := hrel
        have HI := hide hin
        clear hin
        by_cases hlt : j < X.length
        · have d6 : decide (j < X.length) = true := by simp [hlt]
          obtain ⟨b, o, rfl, _, c0⟩ := HRX.out.int hlt
          rcases btw_cases X[j] 0 1000 with ⟨hb, hi⟩ | ⟨hb, hi⟩
          · have HS := hide (inR_step hlt HI.out hi)
            obtain ⟨x, hxe⟩ : ∃ x, x = X[j] := ⟨_, rfl⟩
            rw [← hxe] at c0 hb
            have HBW := hide (fun W => between_to x 0 1000 true W hb)
            clear hxe hi hb
            go_wp2_with fail
            with_reducible refine (HBW.out _).mono ?_
            rintro e w5 ⟨rfl, rfl⟩
            go_wp2
            go_roundw
            case rel => exact ⟨j + 1, by omega, by go_num, HS.out, rfl⟩
            case measure => simp [intOf]; omega
          · have HB := hide (inR_bad hlt (fun h => by omega))
            have HQ := hide (HE.out.trans (if_neg HB.out))
            obtain ⟨x, hxe⟩ : ∃ x, x = X[j] := ⟨_, rfl⟩
            rw [← hxe] at c0 hb
            have HBW := hide (fun W => between_to x 0 1000 false W hb)
            clear hxe hi hb
            go_wp2_with fail
            with_reducible refine (HBW.out _).mono ?_
            rintro e w5 ⟨rfl, rfl⟩
            go_wp2
            go_ret
            exact ⟨by rw [HQ.out]; rfl, HK4.out.bel⟩
        · have d6 : decide (j < X.length) = false := by simp [hlt]
          have HIN : Hid (inR X = true) := hide (by have := HI.out; rwa [List.take_of_length_le (by omega)] at this)
          have HQ := hide (HE.out.trans (if_pos HIN.out))
          go_wp2
          go_ret
          exact ⟨by rw [HQ.out]; rfl, HK4.out.bel⟩
end Go.Proofs.Ytpmhpogkpkhbfaa
