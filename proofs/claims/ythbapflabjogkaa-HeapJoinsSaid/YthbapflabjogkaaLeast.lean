/-
  heap.Least: what it answers. Conditions: the list reads as l (RD).
-/
import Derived.Test.YthbapflabjogkaaHSpots
namespace Go.Proofs.Ythbapflabjogkaa
open Go.ChangeShapes Go.WideShapes Go.ChangeAt Go.RowKit
set_option linter.unusedVariables false
set_option linter.unusedSimpArgs false

def iv (l : List Int) (k : Nat) : Int := l.getD k 0
theorem iv_eq (l : List Int) (k : Nat) (h : k < l.length) : iv l k = l[k] := by simp [iv, List.getD_eq_getElem?_getD, List.getElem?_eq_getElem h]
/-- The nearest place ahead of k with a number less than x. -/
def nl (l : List Int) (x : Int) : Nat → Int
  | 0 => -1
  | k + 1 => if iv l k < x then (k : Int) else nl l x k
def leastL (l : List Int) : List Int := (List.range l.length).map fun k => nl l (iv l k) k
theorem nl_lt (l : List Int) (x : Int) : ∀ k, -1 ≤ nl l x k ∧ nl l x k < k
  | 0 => by simp [nl]
  | k + 1 => by
    unfold nl
    split
    · omega
    · have := nl_lt l x k; omega
/-- From j on all are not less: the same one is found. -/
theorem nl_skip (l : List Int) (x : Int) (j : Nat) : ∀ k, j ≤ k → (∀ i, j ≤ i → i < k → ¬ iv l i < x) → nl l x k = nl l x j
  | 0, h, _ => by obtain rfl : j = 0 := by omega
                  rfl
  | k + 1, h, hh => by
    rcases Nat.lt_or_ge k j with h1 | h1
    · obtain rfl : j = k + 1 := by omega
      rfl
    · rw [nl, if_neg (hh k h1 (by omega)), nl_skip l x j k h1 fun i a b => hh i a (by omega)]
theorem nl_between (l : List Int) (x : Int) : ∀ k i : Nat, nl l x k < i → i < k → ¬ iv l i < x
  | 0, i, _, h => by omega
  | k + 1, i, h, hi => by
    unfold nl at h
    split at h
    · omega
    · rcases Nat.lt_or_ge i k with h1 | h1
      · exact nl_between l x k i h h1
      · obtain rfl : i = k := by omega
        assumption
theorem nl_jump (l : List Int) (x : Int) (a : Nat) (h : x ≤ iv l a) : nl l x (a + 1) = nl l x (nl l (iv l a) a + 1).toNat := by
  have h0 := nl_lt l (iv l a) a
  refine nl_skip l x _ _ (by omega) fun i h1 h2 => ?_
  rcases Nat.lt_or_ge i a with h3 | h3
  · have := nl_between l (iv l a) a i (by omega) h3; omega
  · obtain rfl : i = a := by omega
    omega
theorem leastL_len (l : List Int) : (leastL l).length = l.length := by simp [leastL]
theorem leastL_at (l : List Int) (k : Nat) (h : k < l.length) : (leastL l)[k]'(by rw [leastL_len]; exact h) = nl l (iv l k) k := by simp [leastL]

def leastOf (l : List Int) : List Int × Int := if l.length > 200 then ([], 2) else (leastL l, 0)

def LRel (l : List Int) (w : World) (i : Value) (wr : World) : Prop :=
  ∃ k : Nat, k ≤ l.length ∧ i = .int .i64 k ∧ AR wr w.heap.size 3 eInt (part (leastL l) 0 k) ∧ Kp w wr
def LIn (l : List Int) (k : Nat) (w : World) (av : Value) (wr : World) : Prop :=
  ∃ j : Int, av = .int .i64 j ∧ -1 ≤ j ∧ j < k ∧ nl l (iv l k) (j + 1).toNat = nl l (iv l k) k ∧ w = wr

set_option maxRecDepth 100000 in
set_option maxHeartbeats 1000000 in
theorem least_any (l : List Int) (v : Value) (w : World) (hr : RD w eInt v l) : Calls Try.prog 10 #[v] w (Ret2 eInt (leastOf l) w) := by
  obtain ⟨A, c, rfl, hc, hm⟩ := hr.shape
  by_cases hlen : l.length > 200
  · have H1 : Hid (leastOf l = ([], 2)) := hide (by rw [leastOf, if_pos hlen])
    go_enter Try.func10, Try.ntmps10
    go_wp2
    go_ret2
    exact ⟨_, by rw [H1.out]; rfl, by rw [H1.out]; exact RD.nil, Below.refl _ _⟩
  · have H1 : Hid (leastOf l = (leastL l, 0)) := hide (by rw [leastOf, if_neg hlen])
    obtain ⟨C, hC, hmk⟩ := run_mk row_int 0 zero_int l.length (by omega) (by simp [maxLen]; omega)
    have HR := hide hr
    clear hr
    go_enter Try.func10, Try.ntmps10
    go_wp2
    go_loopw [16] (LRel l w) (fun i _ => l.length - (intOf i).toNat)
    case atStart => exact ⟨0, by omega, rfl, by rw [part_zero, leastL_len]; exact AR.made hC, (Kp.refl w).alloc⟩
    case round =>
      obtain ⟨k, hk, rfl, ha, hkp⟩ := hrel
      have HA := hide ha
      clear ha
      by_cases hlt : k < l.length
      · obtain ⟨b, o, rfl, hb, ck⟩ := (HR.out.kp hkp).int hlt
        have hpl : (part (leastL l) 0 k).length = l.length := by rw [part_len _ _ _ (by rw [leastL_len]; omega), leastL_len]
        obtain ⟨x0, y0⟩ : ∃ x, wr.cell? ⟨w.heap.size, k, none⟩ = some x := ⟨_, HA.out.int (by omega)⟩
        have f0 : wr.frozen? ⟨w.heap.size, k, none⟩ = false := HA.out.frozen _
        have hw0 : IntKind.i64.wrap ((k : Int) - 1) = (k : Int) - 1 := IntWalk.i64_in _ (by omega)
        obtain ⟨wo, rfl⟩ : ∃ wo : World, wo = wr := ⟨_, rfl⟩
        go_wp2
        go_loopw [7] (LIn l k wo) (fun a _ => (intOf a + 1).toNat)
        case atStart => exact ⟨(k : Int) - 1, by simp, by omega, by omega, by rw [show ((k : Int) - 1 + 1).toNat = k from by omega], rfl⟩
        case round =>
          clear hw0
          obtain ⟨j, rfl, h1, h2, h3, rfl⟩ := hrel
          have hst : ∀ q : Int, q = nl l (iv l k) k → AR (wo.setCell ⟨w.heap.size, k, none⟩ (.int .i64 q)) w.heap.size 3 eInt (part (leastL l) 0 (k + 1)) := by
            intro q hq
            have h := HA.out.set (k := k) q
            rw [hq, ← leastL_at l k hlt, part_set _ _ k (by rw [leastL_len]; exact hlt)] at h
            rw [hq, ← leastL_at l k hlt]
            exact h
          have HST := hide hst
          clear hst
          by_cases hj : j = -1
          · subst hj
            have hq : Hid ((-1 : Int) = nl l (iv l k) k) := hide (by rw [← h3]; rfl)
            clear h3
            go_wp2
            go_roundw
            case rel => exact ⟨k + 1, by omega, by go_num, HST.out _ hq.out, Kp.setR (Nat.le_refl _) hkp⟩
            case measure => simp [intOf]; omega
          · obtain ⟨a, rfl⟩ : ∃ a : Nat, j = a := ⟨j.toNat, by omega⟩
            rw [show ((a : Int) + 1).toNat = a + 1 from by omega] at h3
            have hak : a < k := by omega
            obtain ⟨b2, o2, e2, _, ca⟩ := (HR.out.kp hkp).int (k := a) (by omega)
            injection e2 with e2
            injection e2 with e3 e4
            subst e3 e4
            have hgt : (-1 : Int) < (a : Int) := by omega
            have hal : (a : Int) < (l.length : Int) := by omega
            by_cases hlta : l[a] < l[k]
            · have hq : Hid ((a : Int) = nl l (iv l k) k) := hide (by rw [← h3, nl, if_pos (by rw [iv_eq l a (by omega), iv_eq l k hlt]; exact hlta)])
              clear h3 hj
              go_wp2
              go_roundw
              case rel => exact ⟨k + 1, by omega, by go_num, HST.out _ hq.out, Kp.setR (Nat.le_refl _) hkp⟩
              case measure => simp [intOf]; omega
            · have hjump := nl_jump l (iv l k) a (by rw [iv_eq l a (by omega), iv_eq l k hlt]; omega)
              have hlt4 := nl_lt l (iv l a) a
              have hq : Hid (nl l (iv l k) (nl l (iv l a) a + 1).toNat = nl l (iv l k) k) := hide (by rw [← hjump, h3])
              have co : wo.cell? ⟨w.heap.size, a, none⟩ = some (.int .i64 (nl l (iv l a) a)) := by
                have h := HA.out.int (k := a) (by omega)
                rw [h]
                have h5 : (part (leastL l) 0 k)[a]'(by omega) = nl l (iv l a) a := by
                  rw [← leastL_at l a (by omega)]
                  exact part_at _ _ k a hak (by rw [leastL_len]; omega)
                rw [h5]
              obtain ⟨q, hqq⟩ : ∃ q, q = nl l (iv l a) a := ⟨_, rfl⟩
              rw [← hqq] at co hlt4
              have HQ := hide hqq
              obtain ⟨g1, g2⟩ := hlt4
              clear h3 hj hjump hqq
              go_wp2
              go_roundw
              case rel => exact ⟨q, rfl, by omega, by omega, by rw [HQ.out]; exact hq.out, rfl⟩
              case measure => simp [intOf]; omega
      · have hkl : k = l.length := by omega
        go_wp2
        go_ret2
        subst hkl
        refine ⟨_, by rw [H1.out]; rfl, ?_, hkp.bel⟩
        have h := HA.out
        rw [show l.length = (leastL l).length from (leastL_len l).symm, part_end] at h
        rw [H1.out, ← leastL_len l]
        exact h.rd (by rw [leastL_len]; unfold maxLen; omega)
end Go.Proofs.Ythbapflabjogkaa
