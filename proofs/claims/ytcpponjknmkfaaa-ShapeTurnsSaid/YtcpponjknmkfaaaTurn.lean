/-
  slices.IndexFunc, shape.Turn: what they answer. Conditions: the list reads as l (RD).
-/
import Derived.Test.YtcpponjknmkfaaaOrder
import Derived.Test.YtcpponjknmkfaaaAnc
import Derived.Test.YtcpponjknmkfaaaClone
namespace Go.Proofs.Ytcpponjknmkfaaa
open Go.ChangeShapes Go.WideShapes Go.ChangeAt Go.RowKit
set_option linter.unusedVariables false
set_option linter.unusedSimpArgs false

/-- The place of a key, or -1. -/
def idxFrom (key : Int) : List IP → Int → Int
  | [], _ => -1
  | p :: t, k => if p.1 = key then k else idxFrom key t (k + 1)
def idxOf (l : List IP) (key : Int) : Int := idxFrom key l 0
theorem idxFrom_at (key : Int) : ∀ (l : List IP) (k0 : Int) (k : Nat) (h : k < l.length), (∀ j (h : j < l.length), j < k → l[j].1 ≠ key) → l[k].1 = key → idxFrom key l k0 = k0 + k
  | p :: t, k0, 0, h, _, he => by rw [idxFrom, if_pos (by simpa using he)]; simp
  | p :: t, k0, k + 1, h, ha, he => by
    have h0 := ha 0 (by simp) (by omega)
    simp only [List.getElem_cons_zero] at h0
    rw [idxFrom, if_neg h0, idxFrom_at key t (k0 + 1) k (by simpa using h) (fun j h a => by have h9 := ha (j + 1) (by simpa using h) (by omega); rwa [List.getElem_cons_succ] at h9) (by simpa using he)]
    omega
theorem idxOf_at (l : List IP) (key : Int) (k : Nat) (h : k < l.length) (ha : ∀ j (h : j < l.length), j < k → l[j].1 ≠ key) (he : l[k].1 = key) : idxOf l key = k := by
  rw [idxOf, idxFrom_at key l 0 k h ha he]; omega
theorem idxFrom_no (key : Int) : ∀ (l : List IP) (k0 : Int), (∀ j (h : j < l.length), l[j].1 ≠ key) → idxFrom key l k0 = -1
  | [], _, _ => rfl
  | p :: t, k0, ha => by
    have h0 := ha 0 (by simp)
    simp only [List.getElem_cons_zero] at h0
    rw [idxFrom, if_neg h0]
    exact idxFrom_no key t (k0 + 1) fun j h => by have h9 := ha (j + 1) (by simpa using h); rwa [List.getElem_cons_succ] at h9
theorem idxOf_no (l : List IP) (key : Int) (ha : ∀ j (h : j < l.length), l[j].1 ≠ key) : idxOf l key = -1 := idxFrom_no key l 0 ha
theorem idxFrom_cases (key : Int) : ∀ (l : List IP) (k0 : Int), idxFrom key l k0 = -1 ∨ ∃ k : Nat, ∃ h : k < l.length, idxFrom key l k0 = k0 + k ∧ l[k].1 = key
  | [], _ => .inl rfl
  | p :: t, k0 => by
    rw [idxFrom]
    split
    · rename_i h
      exact .inr ⟨0, by simp, by simp, by simpa using h⟩
    · rcases idxFrom_cases key t (k0 + 1) with h | ⟨k, hk, h, he⟩
      · exact .inl h
      · exact .inr ⟨k + 1, by simpa using hk, by rw [h]; omega, by simpa using he⟩
theorem idxOf_cases (l : List IP) (key : Int) : idxOf l key = -1 ∨ ∃ k : Nat, ∃ h : k < l.length, idxOf l key = k ∧ l[k].1 = key := by
  rcases idxFrom_cases key l 0 with h | ⟨k, hk, h, he⟩
  · exact .inl h
  · exact .inr ⟨k, hk, by rw [idxOf, h]; omega, he⟩
def IxRel (l : List IP) (key : Int) (w : World) (iv : Value) (wr : World) : Prop := ∃ k : Nat, k ≤ l.length ∧ iv = .int .i64 k ∧ (∀ j (h : j < l.length), j < k → l[j].1 ≠ key) ∧ Kp w wr
set_option maxHeartbeats 1000000 in
theorem idxTurn_clos (k d key : Int) (a : Nat) (w : World) (hc : w.cell? ⟨a, 0, none⟩ = some (.int .i64 key)) (ha : a < w.heap.size) : Calls Try.prog 41 #[.agg #[.int .i64 k, .int .i64 d], .pointer (some ⟨a, 0, none⟩)] w (Ret (.bool (k == key)) w) := by
  have h2 : (w.alloc (.cells #[.int .i64 k, .int .i64 d] 41)).cell? ⟨a, 0, none⟩ = some (.int .i64 key) := ((Kp.refl w).alloc).cell hc
  go_enter Try.func41, Try.ntmps41
  go_wp2
  go_ret
  exact ⟨rfl, (Kp.refl w).alloc.bel⟩
set_option maxRecDepth 100000 in
set_option maxHeartbeats 2000000 in
theorem idxTurn_any (l : List IP) (v : Value) (key : Int) (a : Nat) (w : World) (hr : RD w ePair v l) (hc : w.cell? ⟨a, 0, none⟩ = some (.int .i64 key)) :
    Calls Try.prog 26 #[v, .func (.func 41) #[] #[.pointer (some ⟨a, 0, none⟩)]] w (Ret (.int .i64 (idxOf l key)) w) := by
  obtain ⟨A, c, rfl, hcl, hm⟩ := hr.shape
  have HR := hide hr
  have HC := hide hc
  have ha := World.block_lt_of_cell? _ _ hc
  clear hr hc
  go_enter Try.func26, Try.ntmps26
  go_wp2
  go_loopw [8] (IxRel l key w) (fun i _ => l.length - (intOf i).toNat)
  case atStart => exact ⟨0, by omega, rfl, fun j h a => by omega, Kp.refl _⟩
  case round =>
    obtain ⟨k, hk, rfl, hall, hkp⟩ := hrel
    have HALL := hide hall
    clear hall
    by_cases hlt : k < l.length
    · obtain ⟨b, o, rfl, _, c0, c1⟩ := (HR.out.kp hkp).pair hlt
      obtain ⟨y, hy⟩ : ∃ y, y = l[k].1 := ⟨_, rfl⟩
      rw [← hy] at c0
      have HY := hide hy
      have HCL := hide (fun d => idxTurn_clos y d key a wr (hkp.cell HC.out) (by have := hkp.size; omega))
      clear hy
      by_cases hd : y = key
      · have d1 : (y == key) = true := by simp [hd]
        have H1 : Hid (idxOf l key = k) := hide (idxOf_at l key k hlt HALL.out (by rw [← HY.out]; exact hd))
        rw [d1] at HCL
        clear hd d1
        go_wp2_with (go_at_call 41; ((with_reducible refine (HCL.out _).mono ?_); rintro e w1 ⟨rfl, hb1⟩))
        go_ret
        exact ⟨by rw [H1.out]; rfl, (hkp.trans hb1).bel⟩
      · have d1 : (y == key) = false := by simp [hd]
        have HN : Hid (∀ j (h : j < l.length), j < k + 1 → l[j].1 ≠ key) := hide (fun j h a => by
          rcases Nat.lt_or_ge j k with h9 | h9
          · exact HALL.out j h h9
          · have : j = k := by omega
            subst this
            rw [← HY.out]; exact hd)
        rw [d1] at HCL
        clear hd d1
        go_wp2_with (go_at_call 41; ((with_reducible refine (HCL.out _).mono ?_); rintro e w1 ⟨rfl, hb1⟩))
        go_roundw
        case rel => exact ⟨k + 1, by omega, by go_num, HN.out, hkp.trans hb1⟩
        case measure => simp [intOf]; omega
    · have H1 : Hid (idxOf l key = -1) := hide (idxOf_no l key fun j h => HALL.out j h (by omega))
      go_wp2
      go_ret
      exact ⟨by rw [H1.out]; rfl, hkp.bel⟩
set_option maxHeartbeats 1000000 in
theorem idxTurned_clos (k d key : Int) (a : Nat) (w : World) (hc : w.cell? ⟨a, 0, none⟩ = some (.int .i64 key)) (ha : a < w.heap.size) : Calls Try.prog 27 #[.agg #[.int .i64 k, .int .i64 d], .pointer (some ⟨a, 0, none⟩)] w (Ret (.bool (k == key)) w) := by
  have h2 : (w.alloc (.cells #[.int .i64 k, .int .i64 d] 41)).cell? ⟨a, 0, none⟩ = some (.int .i64 key) := ((Kp.refl w).alloc).cell hc
  go_enter Try.func27, Try.ntmps27
  go_wp2
  go_ret
  exact ⟨rfl, (Kp.refl w).alloc.bel⟩
set_option maxRecDepth 100000 in
set_option maxHeartbeats 2000000 in
theorem idxTurned_any (l : List IP) (v : Value) (key : Int) (a : Nat) (w : World) (hr : RD w ePair v l) (hc : w.cell? ⟨a, 0, none⟩ = some (.int .i64 key)) :
    Calls Try.prog 26 #[v, .func (.func 27) #[] #[.pointer (some ⟨a, 0, none⟩)]] w (Ret (.int .i64 (idxOf l key)) w) := by
  obtain ⟨A, c, rfl, hcl, hm⟩ := hr.shape
  have HR := hide hr
  have HC := hide hc
  have ha := World.block_lt_of_cell? _ _ hc
  clear hr hc
  go_enter Try.func26, Try.ntmps26
  go_wp2
  go_loopw [8] (IxRel l key w) (fun i _ => l.length - (intOf i).toNat)
  case atStart => exact ⟨0, by omega, rfl, fun j h a => by omega, Kp.refl _⟩
  case round =>
    obtain ⟨k, hk, rfl, hall, hkp⟩ := hrel
    have HALL := hide hall
    clear hall
    by_cases hlt : k < l.length
    · obtain ⟨b, o, rfl, _, c0, c1⟩ := (HR.out.kp hkp).pair hlt
      obtain ⟨y, hy⟩ : ∃ y, y = l[k].1 := ⟨_, rfl⟩
      rw [← hy] at c0
      have HY := hide hy
      have HCL := hide (fun d => idxTurned_clos y d key a wr (hkp.cell HC.out) (by have := hkp.size; omega))
      clear hy
      by_cases hd : y = key
      · have d1 : (y == key) = true := by simp [hd]
        have H1 : Hid (idxOf l key = k) := hide (idxOf_at l key k hlt HALL.out (by rw [← HY.out]; exact hd))
        rw [d1] at HCL
        clear hd d1
        go_wp2_with (go_at_call 27; ((with_reducible refine (HCL.out _).mono ?_); rintro e w1 ⟨rfl, hb1⟩))
        go_ret
        exact ⟨by rw [H1.out]; rfl, (hkp.trans hb1).bel⟩
      · have d1 : (y == key) = false := by simp [hd]
        have HN : Hid (∀ j (h : j < l.length), j < k + 1 → l[j].1 ≠ key) := hide (fun j h a => by
          rcases Nat.lt_or_ge j k with h9 | h9
          · exact HALL.out j h h9
          · have : j = k := by omega
            subst this
            rw [← HY.out]; exact hd)
        rw [d1] at HCL
        clear hd d1
        go_wp2_with (go_at_call 27; ((with_reducible refine (HCL.out _).mono ?_); rintro e w1 ⟨rfl, hb1⟩))
        go_roundw
        case rel => exact ⟨k + 1, by omega, by go_num, HN.out, hkp.trans hb1⟩
        case measure => simp [intOf]; omega
    · have H1 : Hid (idxOf l key = -1) := hide (idxOf_no l key fun j h => HALL.out j h (by omega))
      go_wp2
      go_ret
      exact ⟨by rw [H1.out]; rfl, hkp.bel⟩
end Go.Proofs.Ytcpponjknmkfaaa
