/-
  best.right: what it answers. Conditions: the lists read as they are named (RD).
-/
import Derived.Test.YtpmhpogkpkhbfaaArr
namespace Go.Proofs.Ytpmhpogkpkhbfaa
open Go.ChangeShapes Go.WideShapes Go.ChangeAt Go.RowKit
set_option linter.unusedVariables false
set_option linter.unusedSimpArgs false

def inR (l : List Int) : Bool := l.all fun x => decide (0 ≤ x) && decide (x ≤ 1000)
theorem inR_iff {l : List Int} : inR l = true ↔ ∀ x ∈ l, 0 ≤ x ∧ x ≤ 1000 := by
  simp [inR, List.all_eq_true]
def brR (h g : List Int) : Int := if h.length > 20 then 2 else if g.length ≠ h.length + 1 then 3 else if inR h = true ∧ inR g = true then 0 else 1
theorem brR_ok {h g : List Int} (e : brR h g = 0) : h.length ≤ 20 ∧ g.length = h.length + 1 ∧ (∀ x ∈ h, 0 ≤ x ∧ x ≤ 1000) ∧ ∀ x ∈ g, 0 ≤ x ∧ x ≤ 1000 := by
  unfold brR at e
  by_cases h1 : h.length > 20
  · rw [if_pos h1] at e; cases e
  · rw [if_neg h1] at e
    by_cases h2 : g.length ≠ h.length + 1
    · rw [if_pos h2] at e; cases e
    · rw [if_neg h2] at e
      by_cases h3 : inR h = true ∧ inR g = true
      · exact ⟨by omega, by omega, inR_iff.1 h3.1, inR_iff.1 h3.2⟩
      · rw [if_neg h3] at e; cases e
theorem brR_of {h g : List Int} (h1 : h.length ≤ 20) (h2 : g.length = h.length + 1) (h3 : ∀ x ∈ h, 0 ≤ x ∧ x ≤ 1000) (h4 : ∀ x ∈ g, 0 ≤ x ∧ x ≤ 1000) : brR h g = 0 := by
  rw [brR, if_neg (by omega), if_neg (by omega), if_pos ⟨inR_iff.2 h3, inR_iff.2 h4⟩]
theorem run_bx0 (x y : Value) (w : World) : (Instr.index 71 (.agg #[x, y]) (.int .i64 0)).run Try.prog w = .ok x w := by
  simp [Instr.index, run_underlying Try.underlying71, asIntOf, go_sem]
theorem run_bx1 (x y : Value) (w : World) : (Instr.index 71 (.agg #[x, y]) (.int .i64 1)).run Try.prog w = .ok y w := by
  simp [Instr.index, run_underlying Try.underlying71, asIntOf, go_sem]
def RoRel (h g : List Int) (w : World) (iv : Value) (wr : World) : Prop := ∃ k : Nat, k ≤ 2 ∧ iv = .int .i64 k ∧ (0 < k → inR h = true) ∧ (1 < k → inR g = true) ∧ w = wr
def RiRel (l : List Int) (w : World) (iv : Value) (wr : World) : Prop := ∃ j : Nat, j ≤ l.length ∧ iv = .int .i64 j ∧ inR (l.take j) = true ∧ w = wr
theorem inR_step {l : List Int} {j : Nat} (h : j < l.length) (h1 : inR (l.take j) = true) (h2 : 0 ≤ l[j] ∧ l[j] ≤ 1000) : inR (l.take (j + 1)) = true := by
  rw [inR_iff] at h1 ⊢
  intro x hx
  rw [List.take_succ_eq_append_getElem h] at hx
  rcases List.mem_append.1 hx with hx | hx
  · exact h1 x hx
  · rw [List.mem_singleton] at hx; rw [hx]; exact h2
theorem inR_bad {l : List Int} {j : Nat} (h : j < l.length) (h2 : ¬ (0 ≤ l[j] ∧ l[j] ≤ 1000)) : inR l ≠ true := fun e => h2 (inR_iff.1 e _ (List.getElem_mem h))
set_option maxRecDepth 100000 in
set_option maxHeartbeats 4000000 in
theorem right_any (h g : List Int) (v u : Value) (w : World) (hr : RD w eInt v h) (hu : RD w eInt u g) : Calls Try.prog 24 #[v, u] w (Ret (.int .i64 (brR h g)) w) := by
  obtain ⟨A1, c1, rfl, _, _⟩ := hr.shape
  obtain ⟨A2, c2, rfl, _, _⟩ := hu.shape
  have HR := hide hr
  have HU := hide hu
  clear hr hu
  by_cases h1 : h.length > 20
  · have HE : Hid (brR h g = 2) := hide (by rw [brR, if_pos h1])
    have d1 : decide ((20 : Int) < (h.length : Int)) = true := decide_eq_true (by omega)
    clear h1
    go_enter Try.func24, Try.ntmps24
    go_wp2
    go_ret
    exact ⟨by rw [HE.out]; rfl, Below.refl _ _⟩
  · have d1 : decide ((20 : Int) < (h.length : Int)) = false := decide_eq_false (by omega)
    have s1 : IntKind.i64.wrap ((h.length : Int) + 1) = (h.length : Int) + 1 := IntWalk.i64_in _ (by omega)
    by_cases h2 : g.length ≠ h.length + 1
    · have HE : Hid (brR h g = 3) := hide (by rw [brR, if_neg h1, if_pos h2])
      have d2 : ((g.length : Int) != (h.length : Int) + 1) = true := by simp; omega
      clear h1 h2
      go_enter Try.func24, Try.ntmps24
      go_wp2
      go_ret
      exact ⟨by rw [HE.out]; rfl, Below.refl _ _⟩
    · have d2 : ((g.length : Int) != (h.length : Int) + 1) = false := by simp; omega
      have HE : Hid (brR h g = if inR h = true ∧ inR g = true then 0 else 1) := hide (by rw [brR, if_neg h1, if_neg h2])
      have i0 := fun W => run_bx0 (.slice A1 h.length c1) (.slice A2 g.length c2) W
      have i1 := fun W => run_bx1 (.slice A1 h.length c1) (.slice A2 g.length c2) W
      clear h1 h2
      go_enter Try.func24, Try.ntmps24
      go_wp2
      clear s1 d1 d2
      go_loopw [21] (RoRel h g w) (fun k _ => 2 - (intOf k).toNat)
      case atStart => exact ⟨0, by omega, rfl, fun h => by omega, fun h => by omega, rfl⟩
      case round =>
        obtain ⟨k, hk, rfl, hk0, hk1, rfl⟩ := hrel
        have HK0 := hide hk0
        have HK1 := hide hk1
        clear hk0 hk1
        rcases (show k = 0 ∨ k = 1 ∨ k = 2 by omega) with rfl | rfl | rfl
        · go_wp2
          go_loopw [26] (RiRel h w) (fun j _ => (h).length - (intOf j).toNat)
          case atStart => exact ⟨0, by omega, rfl, by simp [inR], rfl⟩
          case round =>
            obtain ⟨j, hj, rfl, hin, rfl⟩ := hrel
            have HI := hide hin
            clear hin
            by_cases hlt : j < (h).length
            · obtain ⟨b, o, e, _, c0⟩ := HR.out.int hlt
              cases e
              by_cases hx : 0 ≤ (h)[j] ∧ (h)[j] ≤ 1000
              · have HS := hide (inR_step hlt HI.out hx)
                obtain ⟨x, hxe⟩ : ∃ x, x = (h)[j] := ⟨_, rfl⟩
                rw [← hxe] at c0 hx
                have d3 : decide (x < 0) = false := decide_eq_false (by omega)
                have d4 : decide ((1000 : Int) < x) = false := decide_eq_false (by omega)
                clear hxe hx
                go_wp2
                go_roundw
                case rel => exact ⟨j + 1, by omega, by go_num, HS.out, rfl⟩
                case measure => simp [intOf]; omega
              · have HB := hide (inR_bad hlt hx)
                have HQ := hide (HE.out.trans (if_neg (fun h => by first | exact HB.out h.1 | exact HB.out h.2)))
                obtain ⟨x, hxe⟩ : ∃ x, x = (h)[j] := ⟨_, rfl⟩
                rw [← hxe] at c0 hx
                by_cases hx0 : x < 0
                · have d3 : decide (x < 0) = true := decide_eq_true hx0
                  clear hxe hx hx0
                  go_wp2
                  go_ret
                  exact ⟨by rw [HQ.out]; rfl, Below.refl _ _⟩
                · have d3 : decide (x < 0) = false := decide_eq_false hx0
                  have d4 : decide ((1000 : Int) < x) = true := decide_eq_true (by omega)
                  clear hxe hx hx0
                  go_wp2
                  go_ret
                  exact ⟨by rw [HQ.out]; rfl, Below.refl _ _⟩
            · have HIN : Hid (inR h = true) := hide (by have := HI.out; rwa [List.take_of_length_le (by omega)] at this)
              go_wp2
              go_roundw
              case rel => exact ⟨1, by omega, rfl, fun _ => HIN.out, fun h => by omega, rfl⟩
              case measure => simp [intOf]
        · go_wp2
          go_loopw [26] (RiRel g w) (fun j _ => (g).length - (intOf j).toNat)
          case atStart => exact ⟨0, by omega, rfl, by simp [inR], rfl⟩
          case round =>
            obtain ⟨j, hj, rfl, hin, rfl⟩ := hrel
            have HI := hide hin
            clear hin
            by_cases hlt : j < (g).length
            · obtain ⟨b, o, e, _, c0⟩ := HU.out.int hlt
              cases e
              by_cases hx : 0 ≤ (g)[j] ∧ (g)[j] ≤ 1000
              · have HS := hide (inR_step hlt HI.out hx)
                obtain ⟨x, hxe⟩ : ∃ x, x = (g)[j] := ⟨_, rfl⟩
                rw [← hxe] at c0 hx
                have d3 : decide (x < 0) = false := decide_eq_false (by omega)
                have d4 : decide ((1000 : Int) < x) = false := decide_eq_false (by omega)
                clear hxe hx
                go_wp2
                go_roundw
                case rel => exact ⟨j + 1, by omega, by go_num, HS.out, rfl⟩
                case measure => simp [intOf]; omega
              · have HB := hide (inR_bad hlt hx)
                have HQ := hide (HE.out.trans (if_neg (fun h => by first | exact HB.out h.1 | exact HB.out h.2)))
                obtain ⟨x, hxe⟩ : ∃ x, x = (g)[j] := ⟨_, rfl⟩
                rw [← hxe] at c0 hx
                by_cases hx0 : x < 0
                · have d3 : decide (x < 0) = true := decide_eq_true hx0
                  clear hxe hx hx0
                  go_wp2
                  go_ret
                  exact ⟨by rw [HQ.out]; rfl, Below.refl _ _⟩
                · have d3 : decide (x < 0) = false := decide_eq_false hx0
                  have d4 : decide ((1000 : Int) < x) = true := decide_eq_true (by omega)
                  clear hxe hx hx0
                  go_wp2
                  go_ret
                  exact ⟨by rw [HQ.out]; rfl, Below.refl _ _⟩
            · have HIN : Hid (inR g = true) := hide (by have := HI.out; rwa [List.take_of_length_le (by omega)] at this)
              go_wp2
              go_roundw
              case rel => exact ⟨2, by omega, rfl, fun _ => HK0.out (by omega), fun _ => HIN.out, rfl⟩
              case measure => simp [intOf]
        · have HQ := hide (HE.out.trans (if_pos ⟨HK0.out (by omega), HK1.out (by omega)⟩))
          go_wp2
          go_ret
          exact ⟨by rw [HQ.out]; rfl, Below.refl _ _⟩
end Go.Proofs.Ytpmhpogkpkhbfaa
