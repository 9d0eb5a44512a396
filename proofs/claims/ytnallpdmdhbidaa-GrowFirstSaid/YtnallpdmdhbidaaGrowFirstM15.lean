/-
  A region that reads and stores twice at its end, whatever the order (JS): what its world is. No program. Conditions: none.
  A row of pairs that is sorted in place, in memory: an element loaded, two that change places. Conditions: none.
  plain.find and what it calls (cmp.Compare, slices.BinarySearchFunc at pairs): what they answer. Conditions: the list reads as l (RD); its keys rise.
-/
import Derived.Test.YtnallpdmdhbidaaGrowFirstM14
import Derived.Test.YtnallpdmdhbidaaGrowFirstM12
import Derived.Test.YtnallpdmdhbidaaGrowFirstM13
import Derived.Test.YtnallpdmdhbidaaGrowFirstM7
import Derived.Test.YtnallpdmdhbidaaGrowFirstM11
import Derived.Test.YtnallpdmdhbidaaGrowFirstM3

namespace Go.Proofs.Ytnallpdmdhbidaa
open Go
set_option linter.unusedVariables false
set_option linter.unusedSimpArgs false

/-- W0: nothing stored yet; W1: behind the first store (operation s1), both loads (d1, d2) are done then; W2: behind the second one (s2). -/
def JS (W0 W1 W2 : World) (s1 s2 d1 d2 : Nat) (L : Array Bool) (w : World) : Prop :=
  (L.getD s1 true = false ∧ L.getD s2 true = false ∧ w = W0) ∨ (L.getD s1 true = true ∧ L.getD s2 true = false ∧ L.getD d1 true = true ∧ L.getD d2 true = true ∧ w = W1) ∨
    (L.getD s1 true = true ∧ L.getD s2 true = true ∧ L.getD d1 true = true ∧ L.getD d2 true = true ∧ w = W2)
section
variable {W0 W1 W2 w : World} {s1 s2 d1 d2 i : Nat} {L : Array Bool}
theorem getD_set_ne (h : i ≠ s1) : (L.setIfInBounds i true).getD s1 true = L.getD s1 true := by
  simp only [Array.getD_eq_getD_getElem?, Array.getElem?_setIfInBounds_ne h]
theorem getD_set_true (h : L.getD s1 true = true) : (L.setIfInBounds i true).getD s1 true = true := by
  by_cases e : i = s1
  · subst e
    simp only [Array.getD_eq_getD_getElem?]
    by_cases hlt : i < L.size
    · simp [Array.getElem?_setIfInBounds_self_of_lt hlt]
    · simp [hlt]
  · rw [getD_set_ne e, h]
theorem getD_set_self : (L.setIfInBounds i true).getD i true = true := by
  simp only [Array.getD_eq_getD_getElem?]
  by_cases hlt : i < L.size
  · simp [Array.getElem?_setIfInBounds_self_of_lt hlt]
  · simp [hlt]
theorem JS.go (h : JS W0 W1 W2 s1 s2 d1 d2 L w) (h1 : i ≠ s1) (h2 : i ≠ s2) : JS W0 W1 W2 s1 s2 d1 d2 (L.setIfInBounds i true) w := by
  unfold JS at h ⊢
  rw [getD_set_ne h1, getD_set_ne h2]
  rcases h with h | ⟨a, b, c, d, e⟩ | ⟨a, b, c, d, e⟩
  · exact .inl h
  · exact .inr (.inl ⟨a, b, getD_set_true c, getD_set_true d, e⟩)
  · exact .inr (.inr ⟨a, b, getD_set_true c, getD_set_true d, e⟩)
theorem JS.ld1 (h : JS W0 W1 W2 s1 s2 d1 d2 L w) (hl : L.getD d1 true = false) : w = W0 := by
  rcases h with h | ⟨a, b, c, d, e⟩ | ⟨a, b, c, d, e⟩
  · exact h.2.2
  · rw [hl] at c; cases c
  · rw [hl] at c; cases c
theorem JS.ld2 (h : JS W0 W1 W2 s1 s2 d1 d2 L w) (hl : L.getD d2 true = false) : w = W0 := by
  rcases h with h | ⟨a, b, c, d, e⟩ | ⟨a, b, c, d, e⟩
  · exact h.2.2
  · rw [hl] at d; cases d
  · rw [hl] at d; cases d
theorem JS.st1 (h : JS W0 W1 W2 s1 s2 d1 d2 L w) (hl : L.getD s1 true = false) (a1 : L.getD d1 true = true) (a2 : L.getD d2 true = true) (hn : s1 ≠ s2) : w = W0 ∧ JS W0 W1 W2 s1 s2 d1 d2 (L.setIfInBounds s1 true) W1 := by
  rcases h with ⟨a, b, e⟩ | ⟨a, b, c, d, e⟩ | ⟨a, b, c, d, e⟩
  · exact ⟨e, .inr (.inl ⟨getD_set_self, (getD_set_ne hn).trans b, getD_set_true a1, getD_set_true a2, rfl⟩)⟩
  · rw [hl] at a; cases a
  · rw [hl] at a; cases a
theorem JS.st2 (h : JS W0 W1 W2 s1 s2 d1 d2 L w) (hl : L.getD s2 true = false) (a1 : L.getD s1 true = true) : w = W1 ∧ JS W0 W1 W2 s1 s2 d1 d2 (L.setIfInBounds s2 true) W2 := by
  rcases h with ⟨a, b, e⟩ | ⟨a, b, c, d, e⟩ | ⟨a, b, c, d, e⟩
  · rw [a1] at a; cases a
  · exact ⟨e, .inr (.inr ⟨getD_set_true a, getD_set_self, getD_set_true c, getD_set_true d, rfl⟩)⟩
  · rw [hl] at b; cases b
theorem JS.start {n : Nat} (h1 : s1 < n) (h2 : s2 < n) : JS W0 W1 W2 s1 s2 d1 d2 (Array.replicate n false) W0 :=
  .inl ⟨by simp [Array.getD, h1], by simp [Array.getD, h2], rfl⟩
theorem JS.done {n : Nat} (h : JS W0 W1 W2 s1 s2 d1 d2 (Array.replicate n true) w) (h1 : s1 < n) (h2 : s2 < n) : w = W2 := by
  rcases h with ⟨a, b, e⟩ | ⟨a, b, c, d, e⟩ | ⟨a, b, c, d, e⟩
  · simp [Array.getD, h1] at a
  · simp [Array.getD, h2] at b
  · exact e
end
end Go.Proofs.Ytnallpdmdhbidaa
namespace Go.Proofs.Ytnallpdmdhbidaa
open Go.ChangeShapes Go.WideShapes Go.ChangeAt Go.RowKit
set_option linter.unusedVariables false
set_option linter.unusedSimpArgs false

section
variable {w : World} {B : Nat} {e : TypeId} {g n c : Nat} {l : List IP}
theorem OW.setPair (h : OW w B e ePair (.slice (some ⟨g, 0, none⟩) n c) l) (k : Nat) (hk : k < l.length) (p : IP) :
    OW ((w.setCell ⟨g, k * 2, none⟩ (.int .i64 p.1)).setCell ⟨g, k * 2 + 1, none⟩ (.int .i64 p.2)) B e ePair (.slice (some ⟨g, 0, none⟩) n c) (l.set k p) := by
  obtain ⟨cur, hbk, hB, hnc, hcm, hcl, htk, hn⟩ := BK.of_ow h
  have hes : ePair.size = 2 := rfl
  rw [hes] at hcl htk
  have hn' : n = (l.set k p).length := by simp [hn]
  have hb2 : BK ((w.setCell ⟨g, k * 2, none⟩ (.int .i64 p.1)).setCell ⟨g, k * 2 + 1, none⟩ (.int .i64 p.2)) g e ((cur.set (k * 2) (.int .i64 p.1)).set (k * 2 + 1) (.int .i64 p.2)) := by
    unfold BK at hbk ⊢
    simp only [World.setCell, Array.getElem?_modify, hbk]
    simp
  rw [hn']
  refine BK.ow (E := ePair) hb2 hB (by omega) hcm (by rw [List.length_set, List.length_set, hcl, hes]) ?_
  have hf := flat_set_pair p l k
  rw [← hf, hes, List.take_set, List.take_set]
  simp only [List.length_set]
  rw [← hn, htk]
theorem OW.pairAt (h : OW w B e ePair (.slice (some ⟨g, 0, none⟩) n c) l) (k : Nat) (hk : k < l.length) :
    w.cell? ⟨g, k * 2, none⟩ = some (.int .i64 l[k].1) ∧ w.cell? ⟨g, k * 2 + 1, none⟩ = some (.int .i64 l[k].2) ∧ w.frozen? ⟨g, k * 2, none⟩ = false ∧ w.frozen? ⟨g, k * 2 + 1, none⟩ = false := by
  obtain ⟨cur, hbk, _, _, _, _, _, hn⟩ := BK.of_ow h
  have h2 := h.cellPair k hk
  subst hn
  obtain ⟨b, o, e1, _, c0, c1⟩ := h.rd.pair hk
  injection e1 with e1
  injection e1 with e2 e3
  subst e2 e3
  refine ⟨by rwa [Nat.zero_add] at c0, h2.1, ?_, h2.2⟩
  unfold BK at hbk
  simp [World.frozen?, hbk]
theorem OW.pairAt? (h : OW w B e ePair (.slice (some ⟨g, 0, none⟩) n c) l) {k : Nat} {x : IP} (hk : l[k]? = some x) :
    w.cell? ⟨g, k * 2, none⟩ = some (.int .i64 x.1) ∧ w.cell? ⟨g, k * 2 + 1, none⟩ = some (.int .i64 x.2) ∧ w.frozen? ⟨g, k * 2, none⟩ = false ∧ w.frozen? ⟨g, k * 2 + 1, none⟩ = false := by
  obtain ⟨hlt, rfl⟩ := List.getElem?_eq_some_iff.1 hk
  exact h.pairAt k hlt
/-- The worlds behind the two stores of a swap. -/
def swW1 (w : World) (g i : Nat) (y : IP) : World := (w.setCell ⟨g, i * 2, none⟩ (.int .i64 y.1)).setCell ⟨g, i * 2 + 1, none⟩ (.int .i64 y.2)
theorem OW.sw (h : OW w B e ePair (.slice (some ⟨g, 0, none⟩) n c) l) {i j : Nat} (hi : i < l.length) (hj : j < l.length) (x y : IP) :
    OW (swW1 (swW1 w g i y) g j x) B e ePair (.slice (some ⟨g, 0, none⟩) n c) ((l.set i y).set j x) :=
  (h.setPair i hi y).setPair j (by simpa using hj) x
theorem OW.swap (h : OW w B e ePair (.slice (some ⟨g, 0, none⟩) n c) l) (i j : Nat) (hi : i < l.length) (hj : j < l.length) :
    OW (swW1 (swW1 w g i l[j]) g j l[i]) B e ePair (.slice (some ⟨g, 0, none⟩) n c) (swapL l i j hi hj) :=
  (h.setPair i hi l[j]).setPair j (by simpa using hj) l[i]
theorem Kf.sw {F : Nat → Prop} {a : World} (h : Kf F a w) (hg : F g) (i : Nat) (y : IP) : Kf F a (swW1 w g i y) := (h.set (p := ⟨g, i * 2, none⟩) (.inl hg)).set (p := ⟨g, i * 2 + 1, none⟩) (.inl hg)
end
end Go.Proofs.Ytnallpdmdhbidaa
namespace Go.Proofs.Ytnallpdmdhbidaa
open Go.ChangeShapes Go.WideShapes Go.ChangeAt Go.RowKit
set_option linter.unusedVariables false
set_option linter.unusedSimpArgs false

theorem isNaN_any (n : Int) (w : World) : Calls Try.prog 57 #[.int .i64 n] w fun e w' => e = .returned (.bool false) ∧ w = w' := by
  have h : (n != n) = false := by simp
  go_enter Try.func57, Try.ntmps57
  go_wp2
  go_ret
  exact ⟨rfl, rfl⟩
def cmp3 (a b : Int) : Int := if a < b then -1 else if b < a then 1 else 0
theorem compare_any (a b : Int) (w : World) : Calls Try.prog 44 #[.int .i64 a, .int .i64 b] w fun e w' => e = .returned (.int .i64 (cmp3 a b)) ∧ w = w' := by
  rcases Int.lt_trichotomy a b with h | h | h
  · have hc : Hid (cmp3 a b = -1) := hide (by rw [cmp3, if_pos h])
    have h1 : decide (a < b) = true := by simp [h]
    clear h
    go_enter Try.func44, Try.ntmps44
    go_wp2_with (go_at_call 57; refine (isNaN_any _ _).mono ?_; rintro e w' ⟨rfl, rfl⟩)
    go_ret
    exact ⟨by rw [hc.out]; rfl, rfl⟩
  · have hc : Hid (cmp3 a b = 0) := hide (by rw [cmp3, if_neg (by omega), if_neg (by omega)])
    have h1 : decide (a < b) = false := by simp; omega
    have h2 : decide (b < a) = false := by simp; omega
    clear h
    go_enter Try.func44, Try.ntmps44
    go_wp2_with (go_at_call 57; refine (isNaN_any _ _).mono ?_; rintro e w' ⟨rfl, rfl⟩)
    go_ret
    exact ⟨by rw [hc.out]; rfl, rfl⟩
  · have hc : Hid (cmp3 a b = 1) := hide (by rw [cmp3, if_neg (by omega), if_pos h])
    have h1 : decide (a < b) = false := by simp; omega
    have h2 : decide (b < a) = true := by simp; omega
    clear h
    go_enter Try.func44, Try.ntmps44
    go_wp2_with (go_at_call 57; refine (isNaN_any _ _).mono ?_; rintro e w' ⟨rfl, rfl⟩)
    go_ret
    exact ⟨by rw [hc.out]; rfl, rfl⟩
theorem cmp3_neg (a b : Int) : decide (cmp3 a b < 0) = decide (a < b) := by
  unfold cmp3; split <;> (try split) <;> simp <;> omega
theorem cmp3_zero (a b : Int) : (cmp3 a b == 0) = (a == b) := by
  unfold cmp3; split <;> (try split) <;> simp <;> omega
theorem find1_any (a1 a2 k : Int) (w : World) : Calls Try.prog 68 #[.agg #[.int .i64 a1, .int .i64 a2], .int .i64 k] w (Ret (.int .i64 (cmp3 a1 k)) w) := by
  go_enter Try.func68, Try.ntmps68
  go_wp2_with (go_at_call 44; refine (compare_any _ _ _).mono ?_; rintro e w' ⟨rfl, rfl⟩)
  go_ret
  exact ⟨rfl, (Kp.refl w).alloc.bel⟩

/-- So many keys are less. -/
def below (l : List IP) (k : Int) : Nat := (l.filter fun p => decide (p.1 < k)).length
def hasKey (l : List IP) (k : Int) : Bool := l.any fun p => p.1 == k
def Rise (l : List IP) : Prop := ∀ i j (hi : i < l.length) (hj : j < l.length), i < j → l[i].1 < l[j].1
theorem Rise.tail {p : IP} {l : List IP} (h : Rise (p :: l)) : Rise l := fun i j hi hj hij => h (i + 1) (j + 1) (by simp; omega) (by simp; omega) (by omega)
theorem below_le (l : List IP) (k : Int) : below l k ≤ l.length := List.length_filter_le _ _
/-- In a list that rises: those ahead of the place are less, those from it on are not. -/
theorem below_cut : ∀ (l : List IP), Rise l → ∀ k i (hi : i < l.length), (i < below l k ↔ l[i].1 < k)
  | [], _, _, i, hi => by simp at hi
  | p :: t, h, k, i, hi => by
    have hz : ∀ j (hj : j < t.length), p.1 < t[j].1 := fun j hj => h 0 (j + 1) (by simp) (by simpa using hj) (by omega)
    by_cases hp : p.1 < k
    · have e : below (p :: t) k = below t k + 1 := by simp [below, List.filter_cons, hp]
      rw [e]
      cases i with
      | zero => simp [hp]
      | succ i =>
        simp only [List.getElem_cons_succ, Nat.add_lt_add_iff_right]
        exact below_cut t h.tail k i (by simpa using hi)
    · have e : below (p :: t) k = 0 := by
        have : ∀ x ∈ t, ¬ x.1 < k := fun x hx => by
          obtain ⟨j, hj, rfl⟩ := List.getElem_of_mem hx
          have := hz j hj; omega
        simp only [below, List.length_eq_zero_iff, List.filter_eq_nil_iff, decide_eq_true_eq, List.mem_cons]
        rintro x (rfl | hx)
        · exact hp
        · exact this x hx
      rw [e]
      cases i with
      | zero => simp [hp]
      | succ i =>
        simp only [List.getElem_cons_succ]
        have := hz i (by simpa using hi)
        omega
theorem hasKey_iff (l : List IP) (h : Rise l) (k : Int) : hasKey l k = true ↔ ∃ h : below l k < l.length, (l[below l k]'h).1 = k := by
  simp only [hasKey, List.any_eq_true, beq_iff_eq]
  constructor
  · rintro ⟨x, hx, hk⟩
    obtain ⟨j, hj, rfl⟩ := List.getElem_of_mem hx
    have h1 := (below_cut l h k j hj)
    have hb : below l k ≤ j := by omega
    have hlt : below l k < l.length := by omega
    refine ⟨hlt, ?_⟩
    have h2 := below_cut l h k (below l k) hlt
    rcases Nat.lt_or_ge (below l k) j with h3 | h3
    · have := h _ _ hlt hj h3; omega
    · have e : below l k = j := by omega
      simp only [e]; exact hk
  · rintro ⟨hlt, hk⟩
    exact ⟨_, List.getElem_mem hlt, hk⟩

def FRel (l : List IP) (k : Int) (w : World) (iv jv : Value) (wr : World) : Prop :=
  ∃ i j : Nat, i ≤ j ∧ j ≤ l.length ∧ iv = .int .i64 i ∧ jv = .int .i64 j ∧ i ≤ below l k ∧ below l k ≤ j ∧ Kp w wr

theorem half_up (i j : Nat) (hj : i + j ≤ 1000000) : IntKind.i64.wrap (IntKind.u64.wrap ((i : Int) + (j : Int)) / 2) = (((i + j) / 2 : Nat) : Int) := by
  have h1 : IntKind.u64.wrap ((i : Int) + (j : Int)) = (i : Int) + (j : Int) := by
    simp [IntKind.wrap, IntKind.bits, IntKind.signed]; omega
  rw [h1, IntWalk.i64_in _ (by omega)]
  omega

set_option maxRecDepth 100000 in
set_option maxHeartbeats 1000000 in
theorem bsf_any (l : List IP) (v : Value) (k : Int) (w : World) (hr : RD w ePair v l) (hn : l.length ≤ 1000) (hs : Rise l) :
    Calls Try.prog 67 #[v, .int .i64 k, .func (.func 68) #[] #[]] w (Ret (.tuple #[.int .i64 (below l k : Nat), .bool (hasKey l k)]) w) := by
  obtain ⟨A, c, rfl, hc, hm⟩ := hr.shape
  have HR := hide hr
  have HS := hide hs
  have hble := below_le l k
  clear hr hs
  go_enter Try.func67, Try.ntmps67
  go_wp2
  go_loopw [9, 10] (FRel l k w) (fun i j _ => (intOf j - intOf i).toNat)
  case atStart => exact ⟨0, l.length, by omega, by omega, rfl, rfl, by omega, hble, Kp.refl _⟩
  case round =>
    obtain ⟨i, j, hij, hj, rfl, rfl, hi2, hj2, hkp⟩ := hrel
    by_cases hlt : i < j
    · have hml : (i + j) / 2 < l.length := by omega
      obtain ⟨b, o, rfl, _, c0, c1⟩ := (HR.out.kp hkp).pair hml
      have hcut := below_cut l HS.out k ((i + j) / 2) hml
      have hcn := cmp3_neg l[(i + j) / 2].1 k
      have b1 : ((i : Int) + (j : Int)) / 2 < (l.length : Int) := by omega
      by_cases hd : l[(i + j) / 2].1 < k
      · have hd1 : decide (cmp3 l[(i + j) / 2].1 k < 0) = true := by rw [hcn]; simp [hd]
        have hb : (i + j) / 2 < below l k := hcut.2 hd
        clear hcut hcn hd
        go_wp2_with (go_at_call 68; refine (find1_any _ _ _ _).mono ?_; rintro e w1 ⟨rfl, hb1⟩)
        go_roundw
        case rel => exact ⟨(i + j) / 2 + 1, j, by omega, hj, by go_num, rfl, by omega, hj2, hkp.trans hb1⟩
        case measure => simp [intOf]; omega
      · have hd1 : decide (cmp3 l[(i + j) / 2].1 k < 0) = false := by rw [hcn]; simp; omega
        have hb : below l k ≤ (i + j) / 2 := by omega
        clear hcut hcn hd
        go_wp2_with (go_at_call 68; refine (find1_any _ _ _ _).mono ?_; rintro e w1 ⟨rfl, hb1⟩)
        go_roundw
        case rel => exact ⟨i, (i + j) / 2, by omega, by omega, rfl, by go_num, by omega, by omega, hkp.trans hb1⟩
        case measure => simp [intOf]; omega
    · have hib : Hid (i = below l k) := hide (by omega)
      by_cases hin : i < l.length
      · obtain ⟨b, o, rfl, _, c0, c1⟩ := (HR.out.kp hkp).pair hin
        have hcz := cmp3_zero l[i].1 k
        have hhk : Hid (hasKey l k = (l[i].1 == k)) := hide (by
          rw [Bool.eq_iff_iff, hasKey_iff l HS.out k, beq_iff_eq, ← hib.out]
          exact ⟨fun ⟨_, h⟩ => h, fun h => ⟨hin, h⟩⟩)
        have hd : decide ((i : Int) < (l.length : Int)) = true := by simp [hin]
        have hd' : decide (i < l.length) = true := by simp [hin]
        have HCZ := hide hcz
        clear hcz
        go_wp2_with (go_at_call 68; refine (find1_any _ _ _ _).mono ?_; rintro e w1 ⟨rfl, hb1⟩)
        go_ret2
        exact ⟨by rw [hhk.out, ← HCZ.out, ← hib.out]; rfl, (hkp.trans hb1).bel⟩
      · have hhk : Hid (hasKey l k = false) := hide (by
          rw [Bool.eq_false_iff]
          intro h
          obtain ⟨h1, _⟩ := (hasKey_iff l HS.out k).1 h
          omega)
        have hd' : decide (i < l.length) = false := by simp [hin]
        go_wp2
        go_ret2
        exact ⟨by rw [hhk.out, ← hib.out]; rfl, hkp.bel⟩

theorem find_any (l : List IP) (v : Value) (k : Int) (w : World) (hr : RD w ePair v l) (hn : l.length ≤ 1000) (hs : Rise l) :
    Calls Try.prog 61 #[v, .int .i64 k] w (Ret (.tuple #[.int .i64 (below l k : Nat), .bool (hasKey l k)]) w) := by
  have HC := hide (fun w h => bsf_any l v k w h hn hs)
  have HR := hide hr
  clear hr hs
  go_enter Try.func61, Try.ntmps61
  go_wp2_with fail
  refine (HC.out _ HR.out).mono ?_
  rintro e w1 ⟨rfl, hb1⟩
  go_wp2
  go_ret2
  exact ⟨rfl, hb1⟩
end Go.Proofs.Ytnallpdmdhbidaa
