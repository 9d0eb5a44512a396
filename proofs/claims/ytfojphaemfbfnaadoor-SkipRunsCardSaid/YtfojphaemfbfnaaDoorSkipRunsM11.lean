/-
  plain.find and what it calls (cmp.Compare, slices.BinarySearchFunc at pairs): what they answer. Conditions: the list reads as l (RD); its keys rise.
-/
import Derived.Test.YtfojphaemfbfnaaDoorSkipRunsM10
import Derived.Test.YtfojphaemfbfnaaDoorSkipRunsM3

namespace Go.Proofs.YtfojphaemfbfnaaDoor
open Go.ChangeShapes Go.WideShapes Go.ChangeAt Go.RowKit
set_option linter.unusedVariables false
set_option linter.unusedSimpArgs false

theorem isNaN_any (n : Int) (w : World) : Calls Tryd.prog 67 #[.int .i64 n] w fun e w' => e = .returned (.bool false) ∧ w = w' := by
  have h : (n != n) = false := by simp
  go_enter Tryd.func67, Tryd.ntmps67
  go_wp2
  go_ret
  exact ⟨rfl, rfl⟩
def cmp3 (a b : Int) : Int := if a < b then -1 else if b < a then 1 else 0
theorem compare_any (a b : Int) (w : World) : Calls Tryd.prog 65 #[.int .i64 a, .int .i64 b] w fun e w' => e = .returned (.int .i64 (cmp3 a b)) ∧ w = w' := by
  rcases Int.lt_trichotomy a b with h | h | h
  · have hc : Hid (cmp3 a b = -1) := hide (by rw [cmp3, if_pos h])
    have h1 : decide (a < b) = true := by simp [h]
    clear h
    go_enter Tryd.func65, Tryd.ntmps65
    go_wp2_with (go_at_call 67; refine (isNaN_any _ _).mono ?_; rintro e w' ⟨rfl, rfl⟩)
    go_ret
    exact ⟨by rw [hc.out]; rfl, rfl⟩
  · have hc : Hid (cmp3 a b = 0) := hide (by rw [cmp3, if_neg (by omega), if_neg (by omega)])
    have h1 : decide (a < b) = false := by simp; omega
    have h2 : decide (b < a) = false := by simp; omega
    clear h
    go_enter Tryd.func65, Tryd.ntmps65
    go_wp2_with (go_at_call 67; refine (isNaN_any _ _).mono ?_; rintro e w' ⟨rfl, rfl⟩)
    go_ret
    exact ⟨by rw [hc.out]; rfl, rfl⟩
  · have hc : Hid (cmp3 a b = 1) := hide (by rw [cmp3, if_neg (by omega), if_pos h])
    have h1 : decide (a < b) = false := by simp; omega
    have h2 : decide (b < a) = true := by simp; omega
    clear h
    go_enter Tryd.func65, Tryd.ntmps65
    go_wp2_with (go_at_call 67; refine (isNaN_any _ _).mono ?_; rintro e w' ⟨rfl, rfl⟩)
    go_ret
    exact ⟨by rw [hc.out]; rfl, rfl⟩
theorem cmp3_neg (a b : Int) : decide (cmp3 a b < 0) = decide (a < b) := by
  unfold cmp3; split <;> (try split) <;> simp <;> omega
theorem cmp3_zero (a b : Int) : (cmp3 a b == 0) = (a == b) := by
  unfold cmp3; split <;> (try split) <;> simp <;> omega
theorem find1_any (a1 a2 k : Int) (w : World) : Calls Tryd.prog 64 #[.agg #[.int .i64 a1, .int .i64 a2], .int .i64 k] w (Ret (.int .i64 (cmp3 a1 k)) w) := by
  go_enter Tryd.func64, Tryd.ntmps64
  go_wp2_with (go_at_call 65; refine (compare_any _ _ _).mono ?_; rintro e w' ⟨rfl, rfl⟩)
  go_ret
  exact ⟨rfl, (Kp.refl w).alloc.bel⟩

/-- So many keys are less. -/
def below (l : List IP) (k : Int) : Nat := (l.filter fun p => decide (p.1 < k)).length
def hasKey (l : List IP) (k : Int) : Bool := l.any fun p => p.1 == k
def Rise (l : List IP) : Prop := ∀ i j (hi : i < l.length) (hj : j < l.length), i < j → l[i].1 < l[j].1
theorem Rise.tail {p : IP} {l : List IP} (h : Rise (p :: l)) : Rise l := fun i j hi hj hij => h (i + 1) (j + 1) (by simp; omega) (by simp; omega) (by omega)
theorem below_le (l : List IP) (k : Int) : below l k ≤ l.length := List.length_filter_le _ _
/-- In a list that rises: those ahead of the place are less, those from it on are not. -/
theorem below_cut : ∀ (l : List IP), Rise l → ∀ k i (hi : i < l.length), (i < below l k ↔ l[i].1 < k)
  | [], _, _, i, hi => by simp at hi
  | p :: t, h, k, i, hi => by
    have hz : ∀ j (hj : j < t.length), p.1 < t[j].1 := fun j hj => h 0 (j + 1) (by simp) (by simpa using hj) (by omega)
    by_cases hp : p.1 < k
    · have e : below (p :: t) k = below t k + 1 := by simp [below, List.filter_cons, hp]
      rw [e]
      cases i with
      | zero => simp [hp]
      | succ i =>
        simp only [List.getElem_cons_succ, Nat.add_lt_add_iff_right]
        exact below_cut t h.tail k i (by simpa using hi)
    · have e : below (p :: t) k = 0 := by
        have : ∀ x ∈ t, ¬ x.1 < k := fun x hx => by
          obtain ⟨j, hj, rfl⟩ := List.getElem_of_mem hx
          have := hz j hj; omega
        simp only [below, List.length_eq_zero_iff, List.filter_eq_nil_iff, decide_eq_true_eq, List.mem_cons]
        rintro x (rfl | hx)
        · exact hp
        · exact this x hx
      rw [e]
      cases i with
      | zero => simp [hp]
      | succ i =>
        simp only [List.getElem_cons_succ]
        have := hz i (by simpa using hi)
        omega
theorem hasKey_iff (l : List IP) (h : Rise l) (k : Int) : hasKey l k = true ↔ ∃ h : below l k < l.length, (l[below l k]'h).1 = k := by
  simp only [hasKey, List.any_eq_true, beq_iff_eq]
  constructor
  · rintro ⟨x, hx, hk⟩
    obtain ⟨j, hj, rfl⟩ := List.getElem_of_mem hx
    have h1 := (below_cut l h k j hj)
    have hb : below l k ≤ j := by omega
    have hlt : below l k < l.length := by omega
    refine ⟨hlt, ?_⟩
    have h2 := below_cut l h k (below l k) hlt
    rcases Nat.lt_or_ge (below l k) j with h3 | h3
    · have := h _ _ hlt hj h3; omega
    · have e : below l k = j := by omega
      simp only [e]; exact hk
  · rintro ⟨hlt, hk⟩
    exact ⟨_, List.getElem_mem hlt, hk⟩

def FRel (l : List IP) (k : Int) (w : World) (iv jv : Value) (wr : World) : Prop :=
  ∃ i j : Nat, i ≤ j ∧ j ≤ l.length ∧ iv = .int .i64 i ∧ jv = .int .i64 j ∧ i ≤ below l k ∧ below l k ≤ j ∧ Kp w wr

theorem half_up (i j : Nat) (hj : i + j ≤ 1000000) : IntKind.i64.wrap (IntKind.u64.wrap ((i : Int) + (j : Int)) / 2) = (((i + j) / 2 : Nat) : Int) := by
  have h1 : IntKind.u64.wrap ((i : Int) + (j : Int)) = (i : Int) + (j : Int) := by
    simp [IntKind.wrap, IntKind.bits, IntKind.signed]; omega
  rw [h1, IntWalk.i64_in _ (by omega)]
  omega

set_option maxRecDepth 100000 in
set_option maxHeartbeats 1000000 in
theorem bsf_any (l : List IP) (v : Value) (k : Int) (w : World) (hr : RD w ePair v l) (hn : l.length ≤ 1000) (hs : Rise l) :
    Calls Tryd.prog 63 #[v, .int .i64 k, .func (.func 64) #[] #[]] w (Ret (.tuple #[.int .i64 (below l k : Nat), .bool (hasKey l k)]) w) := by
  obtain ⟨A, c, rfl, hc, hm⟩ := hr.shape
  have HR := hide hr
  have HS := hide hs
  have hble := below_le l k
  clear hr hs
  go_enter Tryd.func63, Tryd.ntmps63
  go_wp2
  go_loopw [9, 10] (FRel l k w) (fun i j _ => (intOf j - intOf i).toNat)
  case atStart => exact ⟨0, l.length, by omega, by omega, rfl, rfl, by omega, hble, Kp.refl _⟩
  case round =>
    obtain ⟨i, j, hij, hj, rfl, rfl, hi2, hj2, hkp⟩ := hrel
    by_cases hlt : i < j
    · have hml : (i + j) / 2 < l.length := by omega
      obtain ⟨b, o, rfl, _, c0, c1⟩ := (HR.out.kp hkp).pair hml
      have hcut := below_cut l HS.out k ((i + j) / 2) hml
      have hcn := cmp3_neg l[(i + j) / 2].1 k
      have b1 : ((i : Int) + (j : Int)) / 2 < (l.length : Int) := by omega
      by_cases hd : l[(i + j) / 2].1 < k
      · have hd1 : decide (cmp3 l[(i + j) / 2].1 k < 0) = true := by rw [hcn]; simp [hd]
        have hb : (i + j) / 2 < below l k := hcut.2 hd
        clear hcut hcn hd
        go_wp2_with (go_at_call 64; refine (find1_any _ _ _ _).mono ?_; rintro e w1 ⟨rfl, hb1⟩)
        go_roundw
        case rel => exact ⟨(i + j) / 2 + 1, j, by omega, hj, by go_num, rfl, by omega, hj2, hkp.trans hb1⟩
        case measure => simp [intOf]; omega
      · have hd1 : decide (cmp3 l[(i + j) / 2].1 k < 0) = false := by rw [hcn]; simp; omega
        have hb : below l k ≤ (i + j) / 2 := by omega
        clear hcut hcn hd
        go_wp2_with (go_at_call 64; refine (find1_any _ _ _ _).mono ?_; rintro e w1 ⟨rfl, hb1⟩)
        go_roundw
        case rel => exact ⟨i, (i + j) / 2, by omega, by omega, rfl, by go_num, by omega, by omega, hkp.trans hb1⟩
        case measure => simp [intOf]; omega
    · have hib : Hid (i = below l k) := hide (by omega)
      by_cases hin : i < l.length
      · obtain ⟨b, o, rfl, _, c0, c1⟩ := (HR.out.kp hkp).pair hin
        have hcz := cmp3_zero l[i].1 k
        have hhk : Hid (hasKey l k = (l[i].1 == k)) := hide (by
          rw [Bool.eq_iff_iff, hasKey_iff l HS.out k, beq_iff_eq, ← hib.out]
          exact ⟨fun ⟨_, h⟩ => h, fun h => ⟨hin, h⟩⟩)
        have hd : decide ((i : Int) < (l.length : Int)) = true := by simp [hin]
        have hd' : decide (i < l.length) = true := by simp [hin]
        have HCZ := hide hcz
        clear hcz
        go_wp2_with (go_at_call 64; refine (find1_any _ _ _ _).mono ?_; rintro e w1 ⟨rfl, hb1⟩)
        go_ret2
        exact ⟨by rw [hhk.out, ← HCZ.out, ← hib.out]; rfl, (hkp.trans hb1).bel⟩
      · have hhk : Hid (hasKey l k = false) := hide (by
          rw [Bool.eq_false_iff]
          intro h
          obtain ⟨h1, _⟩ := (hasKey_iff l HS.out k).1 h
          omega)
        have hd' : decide (i < l.length) = false := by simp [hin]
        go_wp2
        go_ret2
        exact ⟨by rw [hhk.out, ← hib.out]; rfl, hkp.bel⟩

theorem find_any (l : List IP) (v : Value) (k : Int) (w : World) (hr : RD w ePair v l) (hn : l.length ≤ 1000) (hs : Rise l) :
    Calls Tryd.prog 59 #[v, .int .i64 k] w (Ret (.tuple #[.int .i64 (below l k : Nat), .bool (hasKey l k)]) w) := by
  have HC := hide (fun w h => bsf_any l v k w h hn hs)
  have HR := hide hr
  clear hr hs
  go_enter Tryd.func59, Tryd.ntmps59
  go_wp2_with fail
  refine (HC.out _ HR.out).mono ?_
  rintro e w1 ⟨rfl, hb1⟩
  go_wp2
  go_ret2
  exact ⟨rfl, hb1⟩
end Go.Proofs.YtfojphaemfbfnaaDoor
