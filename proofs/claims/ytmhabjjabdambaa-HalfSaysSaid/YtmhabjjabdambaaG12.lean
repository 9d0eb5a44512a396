/-
  Plain laws on lists of pairs whose keys rise. No program. Conditions: none.
  plain.find and what it calls (cmp.Compare, slices.BinarySearchFunc at pairs): what they answer. Conditions: the list reads as l (RD); its keys rise.
  slices.Insert at pairs, one value: what it answers. Conditions: the slice is owned by the caller (OW); the value lies in a block of its own; at most 1000 elements.
-/
import Derived.Test.YtmhabjjabdambaaG11
import Derived.Test.YtmhabjjabdambaaG1
import Derived.Laws.NewBlocks

namespace Go.Proofs.Ytmhabjjabdambaa
open Go.ChangeShapes Go.WideShapes Go.ChangeAt Go.RowKit
set_option linter.unusedVariables false
set_option linter.unusedSimpArgs false

theorem mrFrom_01 : ∀ (l : List IP) (last : Int), mrFrom last l = 0 ∨ mrFrom last l = 3
  | [], _ => .inl rfl
  | p :: t, last => by
    unfold mrFrom
    split
    · exact mrFrom_01 t p.1
    · exact .inr rfl
theorem mrFrom_cons {p : IP} {t : List IP} {last : Int} (h : mrFrom last (p :: t) = 0) : last < p.1 ∧ p.1 ≤ 1000000 ∧ mrFrom p.1 t = 0 := by
  unfold mrFrom at h
  split at h
  · rename_i hb
    have := (btw_iff _ _ _).1 hb
    exact ⟨by omega, this.2, h⟩
  · omega
theorem mrFrom_gt : ∀ (l : List IP) (last : Int), mrFrom last l = 0 → ∀ x ∈ l, last < x.1
  | [], _, _, x, hx => by cases hx
  | p :: t, last, h, x, hx => by
    obtain ⟨h1, h2, h3⟩ := mrFrom_cons h
    rcases List.mem_cons.1 hx with rfl | hx
    · exact h1
    · have := mrFrom_gt t p.1 h3 x hx; omega
theorem mrFrom_append : ∀ (a b : List IP) (last : Int), mrFrom last a = 0 → (∀ l2, (∀ x ∈ a, x.1 ≤ l2) → last ≤ l2 → (a = [] → l2 = last) → (∀ x, a.getLast? = some x → l2 = x.1) → mrFrom l2 b = 0) → mrFrom last (a ++ b) = 0
  | [], b, last, _, h => by simpa using h last (by simp) (by omega) (fun _ => rfl) (by simp)
  | p :: t, b, last, ha, h => by
    obtain ⟨h1, h2, h3⟩ := mrFrom_cons ha
    rw [List.cons_append, mrFrom, if_pos ((btw_iff _ _ _).2 ⟨by omega, h2⟩)]
    refine mrFrom_append t b p.1 h3 fun l2 g1 g2 g3 g4 => ?_
    refine h l2 (fun x hx => ?_) (by omega) (by simp) (fun x hx => ?_)
    · rcases List.mem_cons.1 hx with rfl | hx
      · exact g2
      · exact g1 x hx
    · cases t with
      | nil => simp at hx; subst hx; exact g3 rfl
      | cons q t => exact g4 x (by simpa [List.getLast?_cons_cons] using hx)
theorem mrFrom_more {b : List IP} {l1 l2 : Int} (h : mrFrom l1 b = 0) (h2 : ∀ x ∈ b, l2 < x.1) : mrFrom l2 b = 0 := by
  cases b with
  | nil => rfl
  | cons p t =>
    obtain ⟨g1, g2, g3⟩ := mrFrom_cons h
    have := h2 p (by simp)
    rw [mrFrom, if_pos ((btw_iff _ _ _).2 ⟨by omega, g2⟩), g3]
theorem mapRight_from (l : List IP) (h : mapRight l = 0) : mrFrom (-1) l = 0 := by
  unfold mapRight at h
  split at h
  · omega
  · exact h

theorem mrFrom_keys : ∀ (l m : List IP) (last : Int), l.map Prod.fst = m.map Prod.fst → mrFrom last l = mrFrom last m
  | [], [], _, _ => rfl
  | [], _ :: _, _, h => by simp at h
  | _ :: _, [], _, h => by simp at h
  | p :: t, q :: u, last, h => by
    simp only [List.map_cons, List.cons.injEq] at h
    rw [mrFrom, mrFrom, h.1, mrFrom_keys t u q.1 h.2]
theorem mapRight_keys (l m : List IP) (h : l.map Prod.fst = m.map Prod.fst) : mapRight l = mapRight m := by
  have hl : l.length = m.length := by simpa using congrArg List.length h
  rw [mapRight, mapRight, hl, mrFrom_keys l m _ h]
theorem mrFrom_rise : ∀ (l : List IP) (last : Int), mrFrom last l = 0 → ∀ i j (hi : i < l.length) (hj : j < l.length), i < j → l[i].1 < l[j].1
  | p :: t, last, h, 0, j + 1, hi, hj, _ => by
    obtain ⟨_, _, h3⟩ := mrFrom_cons h
    simp only [List.getElem_cons_zero, List.getElem_cons_succ]
    exact mrFrom_gt t p.1 h3 _ (List.getElem_mem _)
  | p :: t, last, h, i + 1, j + 1, hi, hj, hij => by
    obtain ⟨_, _, h3⟩ := mrFrom_cons h
    simp only [List.getElem_cons_succ]
    exact mrFrom_rise t p.1 h3 i j (by simpa using hi) (by simpa using hj) (by omega)
  | _, _, _, 0, 0, _, _, h => by omega
  | _, _, _, i + 1, 0, _, _, h => by omega
theorem mrFrom_le6 : ∀ (l : List IP) (last : Int), mrFrom last l = 0 → ∀ x ∈ l, x.1 ≤ 1000000
  | [], _, _, x, hx => by cases hx
  | p :: t, last, h, x, hx => by
    obtain ⟨h1, h2, h3⟩ := mrFrom_cons h
    rcases List.mem_cons.1 hx with rfl | hx
    · exact h2
    · exact mrFrom_le6 t p.1 h3 x hx
theorem mapRight_rise (l : List IP) (h : mapRight l = 0) (i j : Nat) (hi : i < l.length) (hj : j < l.length) (hij : i < j) : l[i].1 < l[j].1 := mrFrom_rise l (-1) (mapRight_from l h) i j hi hj hij
theorem mapRight_in (l : List IP) (h : mapRight l = 0) (x : IP) (hx : x ∈ l) : 0 ≤ x.1 ∧ x.1 ≤ 1000000 :=
  ⟨by have := mrFrom_gt l (-1) (mapRight_from l h) x hx; omega, mrFrom_le6 l (-1) (mapRight_from l h) x hx⟩
end Go.Proofs.Ytmhabjjabdambaa
namespace Go.Proofs.Ytmhabjjabdambaa
open Go.ChangeShapes Go.WideShapes Go.ChangeAt Go.RowKit
set_option linter.unusedVariables false
set_option linter.unusedSimpArgs false

theorem isNaN_any (n : Int) (w : World) : Calls Try.prog 48 #[.int .i64 n] w fun e w' => e = .returned (.bool false) ∧ w = w' := by
  have h : (n != n) = false := by simp
  go_enter Try.func48, Try.ntmps48
  go_wp2
  go_ret
  exact ⟨rfl, rfl⟩
def cmp3 (a b : Int) : Int := if a < b then -1 else if b < a then 1 else 0
theorem compare_any (a b : Int) (w : World) : Calls Try.prog 46 #[.int .i64 a, .int .i64 b] w fun e w' => e = .returned (.int .i64 (cmp3 a b)) ∧ w = w' := by
  rcases Int.lt_trichotomy a b with h | h | h
  · have hc : Hid (cmp3 a b = -1) := hide (by rw [cmp3, if_pos h])
    have h1 : decide (a < b) = true := by simp [h]
    clear h
    go_enter Try.func46, Try.ntmps46
    go_wp2_with (go_at_call 48; refine (isNaN_any _ _).mono ?_; rintro e w' ⟨rfl, rfl⟩)
    go_ret
    exact ⟨by rw [hc.out]; rfl, rfl⟩
  · have hc : Hid (cmp3 a b = 0) := hide (by rw [cmp3, if_neg (by omega), if_neg (by omega)])
    have h1 : decide (a < b) = false := by simp; omega
    have h2 : decide (b < a) = false := by simp; omega
    clear h
    go_enter Try.func46, Try.ntmps46
    go_wp2_with (go_at_call 48; refine (isNaN_any _ _).mono ?_; rintro e w' ⟨rfl, rfl⟩)
    go_ret
    exact ⟨by rw [hc.out]; rfl, rfl⟩
  · have hc : Hid (cmp3 a b = 1) := hide (by rw [cmp3, if_neg (by omega), if_pos h])
    have h1 : decide (a < b) = false := by simp; omega
    have h2 : decide (b < a) = true := by simp; omega
    clear h
    go_enter Try.func46, Try.ntmps46
    go_wp2_with (go_at_call 48; refine (isNaN_any _ _).mono ?_; rintro e w' ⟨rfl, rfl⟩)
    go_ret
    exact ⟨by rw [hc.out]; rfl, rfl⟩
theorem cmp3_neg (a b : Int) : decide (cmp3 a b < 0) = decide (a < b) := by
  unfold cmp3; split <;> (try split) <;> simp <;> omega
theorem cmp3_zero (a b : Int) : (cmp3 a b == 0) = (a == b) := by
  unfold cmp3; split <;> (try split) <;> simp <;> omega
theorem find1_any (a1 a2 k : Int) (w : World) : Calls Try.prog 45 #[.agg #[.int .i64 a1, .int .i64 a2], .int .i64 k] w (Ret (.int .i64 (cmp3 a1 k)) w) := by
  go_enter Try.func45, Try.ntmps45
  go_wp2_with (go_at_call 46; refine (compare_any _ _ _).mono ?_; rintro e w' ⟨rfl, rfl⟩)
  go_ret
  exact ⟨rfl, (Kp.refl w).alloc.bel⟩

/-- So many keys are less. -/
def below (l : List IP) (k : Int) : Nat := (l.filter fun p => decide (p.1 < k)).length
def hasKey (l : List IP) (k : Int) : Bool := l.any fun p => p.1 == k
def Rise (l : List IP) : Prop := ∀ i j (hi : i < l.length) (hj : j < l.length), i < j → l[i].1 < l[j].1
theorem Rise.tail {p : IP} {l : List IP} (h : Rise (p :: l)) : Rise l := fun i j hi hj hij => h (i + 1) (j + 1) (by simp; omega) (by simp; omega) (by omega)
theorem below_le (l : List IP) (k : Int) : below l k ≤ l.length := List.length_filter_le _ _
/-- In a list that rises: those ahead of the place are less, those from it on are not. -/
theorem below_cut : ∀ (l : List IP), Rise l → ∀ k i (hi : i < l.length), (i < below l k ↔ l[i].1 < k)
  | [], _, _, i, hi => by simp at hi
  | p :: t, h, k, i, hi => by
    have hz : ∀ j (hj : j < t.length), p.1 < t[j].1 := fun j hj => h 0 (j + 1) (by simp) (by simpa using hj) (by omega)
    by_cases hp : p.1 < k
    · have e : below (p :: t) k = below t k + 1 := by simp [below, List.filter_cons, hp]
      rw [e]
      cases i with
      | zero => simp [hp]
      | succ i =>
        simp only [List.getElem_cons_succ, Nat.add_lt_add_iff_right]
        exact below_cut t h.tail k i (by simpa using hi)
    · have e : below (p :: t) k = 0 := by
        have : ∀ x ∈ t, ¬ x.1 < k := fun x hx => by
          obtain ⟨j, hj, rfl⟩ := List.getElem_of_mem hx
          have := hz j hj; omega
        simp only [below, List.length_eq_zero_iff, List.filter_eq_nil_iff, decide_eq_true_eq, List.mem_cons]
        rintro x (rfl | hx)
        · exact hp
        · exact this x hx
      rw [e]
      cases i with
      | zero => simp [hp]
      | succ i =>
        simp only [List.getElem_cons_succ]
        have := hz i (by simpa using hi)
        omega
theorem hasKey_iff (l : List IP) (h : Rise l) (k : Int) : hasKey l k = true ↔ ∃ h : below l k < l.length, (l[below l k]'h).1 = k := by
  simp only [hasKey, List.any_eq_true, beq_iff_eq]
  constructor
  · rintro ⟨x, hx, hk⟩
    obtain ⟨j, hj, rfl⟩ := List.getElem_of_mem hx
    have h1 := (below_cut l h k j hj)
    have hb : below l k ≤ j := by omega
    have hlt : below l k < l.length := by omega
    refine ⟨hlt, ?_⟩
    have h2 := below_cut l h k (below l k) hlt
    rcases Nat.lt_or_ge (below l k) j with h3 | h3
    · have := h _ _ hlt hj h3; omega
    · have e : below l k = j := by omega
      simp only [e]; exact hk
  · rintro ⟨hlt, hk⟩
    exact ⟨_, List.getElem_mem hlt, hk⟩

def FRel (l : List IP) (k : Int) (w : World) (iv jv : Value) (wr : World) : Prop :=
  ∃ i j : Nat, i ≤ j ∧ j ≤ l.length ∧ iv = .int .i64 i ∧ jv = .int .i64 j ∧ i ≤ below l k ∧ below l k ≤ j ∧ Kp w wr

theorem half_up (i j : Nat) (hj : i + j ≤ 1000000) : IntKind.i64.wrap (IntKind.u64.wrap ((i : Int) + (j : Int)) / 2) = (((i + j) / 2 : Nat) : Int) := by
  have h1 : IntKind.u64.wrap ((i : Int) + (j : Int)) = (i : Int) + (j : Int) := by
    simp [IntKind.wrap, IntKind.bits, IntKind.signed]; omega
  rw [h1, IntWalk.i64_in _ (by omega)]
  omega

set_option maxRecDepth 100000 in
set_option maxHeartbeats 1000000 in
theorem bsf_any (l : List IP) (v : Value) (k : Int) (w : World) (hr : RD w ePair v l) (hn : l.length ≤ 1000) (hs : Rise l) :
    Calls Try.prog 44 #[v, .int .i64 k, .func (.func 45) #[] #[]] w (Ret (.tuple #[.int .i64 (below l k : Nat), .bool (hasKey l k)]) w) := by
  obtain ⟨A, c, rfl, hc, hm⟩ := hr.shape
  have HR := hide hr
  have HS := hide hs
  have hble := below_le l k
  clear hr hs
  go_enter Try.func44, Try.ntmps44
  go_wp2
  go_loopw [9, 10] (FRel l k w) (fun i j _ => (intOf j - intOf i).toNat)
  case atStart => exact ⟨0, l.length, by omega, by omega, rfl, rfl, by omega, hble, Kp.refl _⟩
  case round =>
    obtain ⟨i, j, hij, hj, rfl, rfl, hi2, hj2, hkp⟩ := hrel
    by_cases hlt : i < j
    · have hml : (i + j) / 2 < l.length := by omega
      obtain ⟨b, o, rfl, _, c0, c1⟩ := (HR.out.kp hkp).pair hml
      have hcut := below_cut l HS.out k ((i + j) / 2) hml
      have hcn := cmp3_neg l[(i + j) / 2].1 k
      have b1 : ((i : Int) + (j : Int)) / 2 < (l.length : Int) := by omega
      by_cases hd : l[(i + j) / 2].1 < k
      · have hd1 : decide (cmp3 l[(i + j) / 2].1 k < 0) = true := by rw [hcn]; simp [hd]
        have hb : (i + j) / 2 < below l k := hcut.2 hd
        clear hcut hcn hd
        go_wp2_with (go_at_call 45; refine (find1_any _ _ _ _).mono ?_; rintro e w1 ⟨rfl, hb1⟩)
        go_roundw
        case rel => exact ⟨(i + j) / 2 + 1, j, by omega, hj, by go_num, rfl, by omega, hj2, hkp.trans hb1⟩
        case measure => simp [intOf]; omega
      · have hd1 : decide (cmp3 l[(i + j) / 2].1 k < 0) = false := by rw [hcn]; simp; omega
        have hb : below l k ≤ (i + j) / 2 := by omega
        clear hcut hcn hd
        go_wp2_with (go_at_call 45; refine (find1_any _ _ _ _).mono ?_; rintro e w1 ⟨rfl, hb1⟩)
        go_roundw
        case rel => exact ⟨i, (i + j) / 2, by omega, by omega, rfl, by go_num, by omega, by omega, hkp.trans hb1⟩
        case measure => simp [intOf]; omega
    · have hib : Hid (i = below l k) := hide (by omega)
      by_cases hin : i < l.length
      · obtain ⟨b, o, rfl, _, c0, c1⟩ := (HR.out.kp hkp).pair hin
        have hcz := cmp3_zero l[i].1 k
        have hhk : Hid (hasKey l k = (l[i].1 == k)) := hide (by
          rw [Bool.eq_iff_iff, hasKey_iff l HS.out k, beq_iff_eq, ← hib.out]
          exact ⟨fun ⟨_, h⟩ => h, fun h => ⟨hin, h⟩⟩)
        have hd : decide ((i : Int) < (l.length : Int)) = true := by simp [hin]
        have hd' : decide (i < l.length) = true := by simp [hin]
        have HCZ := hide hcz
        clear hcz
        go_wp2_with (go_at_call 45; refine (find1_any _ _ _ _).mono ?_; rintro e w1 ⟨rfl, hb1⟩)
        go_ret2
        exact ⟨by rw [hhk.out, ← HCZ.out, ← hib.out]; rfl, (hkp.trans hb1).bel⟩
      · have hhk : Hid (hasKey l k = false) := hide (by
          rw [Bool.eq_false_iff]
          intro h
          obtain ⟨h1, _⟩ := (hasKey_iff l HS.out k).1 h
          omega)
        have hd' : decide (i < l.length) = false := by simp [hin]
        go_wp2
        go_ret2
        exact ⟨by rw [hhk.out, ← hib.out]; rfl, hkp.bel⟩

theorem find_any (l : List IP) (v : Value) (k : Int) (w : World) (hr : RD w ePair v l) (hn : l.length ≤ 1000) (hs : Rise l) :
    Calls Try.prog 39 #[v, .int .i64 k] w (Ret (.tuple #[.int .i64 (below l k : Nat), .bool (hasKey l k)]) w) := by
  have HC := hide (fun w h => bsf_any l v k w h hn hs)
  have HR := hide hr
  clear hr hs
  go_enter Try.func39, Try.ntmps39
  go_wp2_with fail
  refine (HC.out _ HR.out).mono ?_
  rintro e w1 ⟨rfl, hb1⟩
  go_wp2
  go_ret2
  exact ⟨rfl, hb1⟩
end Go.Proofs.Ytmhabjjabdambaa
namespace Go.Proofs.Ytmhabjjabdambaa
open Go.ChangeShapes Go.WideShapes Go.ChangeAt Go.RowKit
set_option linter.unusedVariables false
set_option linter.unusedSimpArgs false

/-- What a call leaves that answers a slice made of one that its caller owned. -/
def OPost (B : Nat) (t : TypeId) (l : List IP) (v : Value) (w : World) (e : Ending) (w' : World) : Prop :=
  ∃ v', e = .returned v' ∧ OW w' B t ePair v' l ∧ w.grownBy w' v.ownBlock ∧ (v'.ownBlock = v.ownBlock ∨ ∃ k, v'.ownBlock = some k ∧ w.heap.size ≤ k)
theorem OPost.kp {w0 w w' : World} {v : Value} (hg : w.grownBy w' v.ownBlock) (h : Kp w0 w) (hv : Hi w0.heap.size v) : Kp w0 w' := Kp.app hg h hv
theorem flat_take {α : Type} (E : Enc α) (l : List α) (k : Nat) (h : k ≤ l.length) : (l.flatMap E.cells).take (k * E.size) = (l.take k).flatMap E.cells := by
  have e : l.flatMap E.cells = (l.take k).flatMap E.cells ++ (l.drop k).flatMap E.cells := by rw [← List.flatMap_append, List.take_append_drop]
  rw [e, List.take_left']
  rw [flat_len]; simp [h]
theorem flat_drop {α : Type} (E : Enc α) (l : List α) (k : Nat) (h : k ≤ l.length) : (l.flatMap E.cells).drop (k * E.size) = (l.drop k).flatMap E.cells := by
  have e : l.flatMap E.cells = (l.take k).flatMap E.cells ++ (l.drop k).flatMap E.cells := by rw [← List.flatMap_append, List.take_append_drop]
  rw [e, List.drop_left']
  rw [flat_len]; simp [h]
/-- Cells of a part of a list. -/
theorem cells_drop {w : World} {g : Nat} {t : TypeId} {cur : List Value} {α : Type} {E : Enc α} {l : List α} (hg : BK w g t cur) (ht : cur.take (l.length * E.size) = l.flatMap E.cells) (k : Nat) (hk : k ≤ l.length) :
    ∀ j v, ((l.drop k).flatMap E.cells)[j]? = some v → w.cell? ⟨g, k * E.size + j, none⟩ = some v := fun j v hj => by
  rw [hg.cell, ← hj, ← flat_drop E l k hk, ← ht, List.getElem?_drop, List.getElem?_take, if_pos]
  have h1 := (List.getElem?_eq_some_iff.1 hj).1
  rw [flat_len, List.length_drop] at h1
  have h2 : (l.length - k) * E.size = l.length * E.size - k * E.size := Nat.sub_mul _ _ _
  have h3 : k * E.size ≤ l.length * E.size := Nat.mul_le_mul_right _ hk
  omega

/-- In place: all from i on is moved by one, the new one laid. -/
theorem insert_take (cur : List Value) (l : List IP) (x : IP) (i c : Nat) (hi : i < l.length) (hc : l.length + 1 ≤ c) (hl : cur.length = c * 2) (ht : cur.take (l.length * 2) = l.flatMap ePair.cells) :
    (splice (splice cur ((i + 1) * 2) ((l.drop i).flatMap ePair.cells)) (i * 2) (ePair.cells x)).take ((l.take i ++ [x] ++ l.drop i).length * 2) = (l.take i ++ [x] ++ l.drop i).flatMap ePair.cells := by
  have hdl : ((l.drop i).flatMap ePair.cells).length = (l.length - i) * 2 := by rw [flat_len, List.length_drop]; rfl
  have hxl : (ePair.cells x).length = 2 := rfl
  have hll : (l.take i ++ [x] ++ l.drop i).length = l.length + 1 := by simp; omega
  have hs1 := splice_len cur ((i + 1) * 2) ((l.drop i).flatMap ePair.cells) (by omega)
  have hft : (l.take i).flatMap ePair.cells = cur.take (i * 2) := by
    have h1 := flat_take ePair l i (by omega)
    have h2 : ePair.size = 2 := rfl
    rw [h2] at h1
    rw [← h1, ← ht, List.take_take, Nat.min_eq_left (by omega)]
  rw [hll]
  apply List.ext_getElem?
  intro j
  rw [List.getElem?_take]
  by_cases hj : j < (l.length + 1) * 2
  · rw [if_pos hj, splice_at _ _ _ (by omega)]
    simp only [List.flatMap_append, List.flatMap_cons, List.flatMap_nil, List.append_nil, List.append_assoc]
    rw [hft]
    have htl : (cur.take (i * 2)).length = i * 2 := by simp; omega
    by_cases h1 : j < i * 2
    · rw [if_pos h1, splice_at _ _ _ (by omega), if_pos (by omega), List.getElem?_append_left (by omega), List.getElem?_take, if_pos h1]
    · rw [if_neg h1, List.getElem?_append_right (by omega), htl]
      by_cases h2 : j < i * 2 + (ePair.cells x).length
      · rw [if_pos h2, List.getElem?_append_left (by omega)]
      · rw [if_neg h2, splice_at _ _ _ (by omega), if_neg (by omega), if_pos (by omega), List.getElem?_append_right (by omega), hxl]
        congr 1; omega
  · rw [if_neg hj, List.getElem?_eq_none]
    rw [flat_len, hll]
    exact Nat.le_of_not_lt hj
/-- In a new block: what stood ahead, the new one, what stood from i on. -/
theorem insert_new (cur Z : List Value) (l : List IP) (x : IP) (i c G : Nat) (hi : i < l.length) (hG : l.length + 1 ≤ G) (hZ : i * 2 + Z.length = G * 2) :
    (splice (splice ((l.take i).flatMap ePair.cells ++ Z) (i * 2) (ePair.cells x)) ((i + 1) * 2) ((l.drop i).flatMap ePair.cells)).take ((l.take i ++ [x] ++ l.drop i).length * 2) = (l.take i ++ [x] ++ l.drop i).flatMap ePair.cells := by
  have hdl : ((l.drop i).flatMap ePair.cells).length = (l.length - i) * 2 := by rw [flat_len, List.length_drop]; rfl
  have hxl : (ePair.cells x).length = 2 := rfl
  have hll : (l.take i ++ [x] ++ l.drop i).length = l.length + 1 := by simp; omega
  have htl : ((l.take i).flatMap ePair.cells).length = i * 2 := by rw [flat_len, List.length_take, Nat.min_eq_left (by omega)]; rfl
  have hcl : ((l.take i).flatMap ePair.cells ++ Z).length = G * 2 := by rw [List.length_append]; omega
  have hs1 := splice_len ((l.take i).flatMap ePair.cells ++ Z) (i * 2) (ePair.cells x) (by omega)
  rw [hll]
  apply List.ext_getElem?
  intro j
  rw [List.getElem?_take]
  by_cases hj : j < (l.length + 1) * 2
  · rw [if_pos hj, splice_at _ _ _ (by omega)]
    simp only [List.flatMap_append, List.flatMap_cons, List.flatMap_nil, List.append_nil, List.append_assoc]
    by_cases h1 : j < (i + 1) * 2
    · rw [if_pos h1, splice_at _ _ _ (by omega)]
      by_cases h2 : j < i * 2
      · rw [if_pos h2, List.getElem?_append_left (by omega), List.getElem?_append_left (by omega)]
      · rw [if_neg h2, if_pos (by omega), List.getElem?_append_right (by omega), List.getElem?_append_left (by omega), htl]
    · rw [if_neg h1, if_pos (by omega), List.getElem?_append_right (by omega), List.getElem?_append_right (by omega)]
      congr 1; omega
  · rw [if_neg hj, List.getElem?_eq_none]
    rw [flat_len, hll]
    exact Nat.le_of_not_lt hj

set_option maxRecDepth 100000 in
theorem grow_zeros (l : List IP) (i g c : Nat) (w : World) {cur : List Value} (hbk : BK w g 68 cur) (htk : cur.take (l.length * 2) = l.flatMap ePair.cells) (hi : i < l.length) (hc : l.length ≤ c) (hroom : c < l.length + 1) (hn : l.length ≤ 1000) :
    ∃ (G : Nat) (C Z : List Value), l.length + 1 ≤ G ∧ G ≤ maxLen ∧ i * 2 + Z.length = G * 2 ∧ C = (l.take i).flatMap ePair.cells ++ Z ∧ ∀ ty, (Builtin.append_ #[48, 3] ty #[.slice (some ⟨g, 0, none⟩) i c, .int .i64 ((l.length : Int) + 1 - (i : Int))]).run Try.prog w =
      .ok (.slice (some ⟨w.heap.size, 0, none⟩) (l.length + 1) G) (w.drew.alloc (.cells C.toArray 68)) := by
  obtain ⟨i0, z0, hu, hinfo, hzero, hsize, hbytes, hzs, _⟩ := row_pair
  have hes : ePair.size = 2 := rfl
  rw [hes] at hsize hzs
  have hft := flat_take ePair l i (by omega)
  rw [hes] at hft
  have hold : (Builtin.firstCells i0.size i (.slice (some ⟨g, 0, none⟩) i c)).run Try.prog w.drew = .ok ((l.take i).flatMap ePair.cells).toArray w.drew := by
    rw [hsize]
    refine run_firstCells_some w.drew 2 i ⟨g, 0, none⟩ i c _ (by rw [flat_len, List.length_take, Nat.min_eq_left (by omega)]; rfl) fun j v hj => ?_
    rw [add_lit, Nat.zero_add]
    show w.cell? _ = _
    have h1 := (List.getElem?_eq_some_iff.1 hj).1
    rw [flat_len, List.length_take, Nat.min_eq_left (by omega), hes] at h1
    rw [hbk.cell, ← hj, ← hft, ← htk, List.getElem?_take, if_pos h1, List.getElem?_take, if_pos (by omega)]
  have hkk : (l.length : Int) + 1 - (i : Int) = ((l.length + 1 - i : Nat) : Int) := by omega
  have hik : i + (l.length + 1 - i) = l.length + 1 := by omega
  have hG := grownCap_ge w (l.length + 1) c 68
  have hG2 := grownCap_le_maxLen w (l.length + 1) c 68 (by unfold maxLen; omega)
  refine ⟨grownCap w (l.length + 1) c 68, _, (Builtin.zeroCells z0.cells (l.length + 1 - i)).toList ++ (Builtin.zeroCells z0.cells (grownCap w (l.length + 1) c 68 - (l.length + 1))).toList, hG, hG2, ?_, rfl, fun ty => ?_⟩
  · simp only [List.length_append, Array.length_toList, size_zeroCells, hzs]; omega
  · have h := Lib.run_append_grow_zeros w 48 3 ty 68 i0 z0 .i64 .i64 hu Try.underlying3 hinfo hzero (some ⟨g, 0, none⟩) i c _ hold (l.length + 1 - i) (by omega) (by omega) (by omega) (by omega) (by rw [hbytes]; omega) (by rw [hbytes, hik]; exact growslice_fits hroom (by omega))
    rw [hik] at h
    rw [hkk, h]
    congr 3
    simp

set_option maxRecDepth 100000 in
set_option maxHeartbeats 4000000 in
theorem insertPair_any (l : List IP) (x : IP) (i : Nat) (v : Value) (h B : Nat) (w : World) (ho : OW w B 68 ePair v l) (hx : AR w h 68 ePair [x]) (hne : v.ownBlock ≠ some h) (hi : i ≤ l.length) (hn : l.length ≤ 1000) (hB : B ≤ w.heap.size) :
    Calls Try.prog 47 #[v, .int .i64 (i : Int), .slice (some ⟨h, 0, none⟩) 1 1] w (OPost B 68 (l.take i ++ [x] ++ l.drop i) v w) := by
  have HX := hide hx
  have hz1 : ¬ ((1 : Int) = 0) := by omega
  by_cases hin : i = l.length
  · -- at the end
    subst hin
    have hl' : Hid (l.take l.length ++ [x] ++ l.drop l.length = l ++ [x]) := hide (by simp)
    have HO := hide ho
    have HM1 : Hid ((l.length + [x].length) * 16 ≤ 140737488355328) := hide (by simp; omega)
    have HM2 : Hid (l.length + [x].length ≤ maxLen) := hide (by simp [maxLen]; omega)
    have HB := hide hB
    have HRX := hide (hx.rd (by simp [maxLen]))
    obtain ⟨A, c, rfl, hc, hm, hA, _⟩ := ho.rd
    have hm' : c ≤ 9223372036854775807 := by unfold maxLen at hm; omega
    clear ho hx hB hne hm
    cases A with
    | none =>
      have hc0 : c = 0 := hA rfl
      have hl0 : l = [] := List.eq_nil_of_length_eq_zero (by omega)
      subst hl0
      subst hc0
      clear hA
      simp only [List.length_nil] at HO ⊢
      go_enter Try.func47, Try.ntmps47
      go_wp2_with (at_builtin; (with_reducible refine list_app (B := B) (l := ([] : List IP)) (m := [x]) row_pair (.slice none 0 0) ?_ (.tmp 23) (.tmp 24) ?_ ?_ ?_ ?_ HM1.out HM2.out ?_ ?_); (with_reducible rfl); (with_reducible rfl); rfl; (exact HO.out); (show RD _ _ (.slice (some ⟨h, 0, none⟩) 1 1) _; exact HRX.out); (exact HB.out); intro v3 w3 ho3 hg3 hat3)
      go_ret
      exact ⟨_, rfl, ho3, hg3, hat3.imp id (fun h => ⟨_, h, Nat.le_refl _⟩)⟩
    | some a =>
      obtain ⟨ab, ao, asp⟩ := a
      obtain ⟨A2, hif⟩ : ∃ A2, (if c = l.length then some (⟨ab, ao, asp⟩ : Addr) else some ((⟨ab, ao, asp⟩ : Addr).add (l.length * 2))) = A2 := ⟨_, rfl⟩
      clear hA
      go_enter Try.func47, Try.ntmps47
      go_wp2_with (at_builtin; (with_reducible refine list_app (B := B) (l := l) (m := [x]) row_pair (.slice (some ⟨ab, ao, asp⟩) l.length c) ?_ (.tmp 23) (.tmp 24) ?_ ?_ ?_ ?_ HM1.out HM2.out ?_ ?_); (with_reducible rfl); (with_reducible rfl); rfl; (exact HO.out); (show RD _ _ (.slice (some ⟨h, 0, none⟩) 1 1) _; exact HRX.out); (exact HB.out); intro v3 w3 ho3 hg3 hat3)
      all_goals
        go_ret
        exact ⟨_, rfl, by rw [hl'.out]; exact ho3, hg3, hat3.imp id (fun h => ⟨_, h, Nat.le_refl _⟩)⟩
  · have hlt : i < l.length := by omega
    obtain ⟨g, c, rfl, hBg, hgw, hc, hc63⟩ := ho.shape (by omega)
    obtain ⟨cur, hbk, _, _, hcm, hcl, htk, _⟩ := BK.of_ow ho
    have hes : ePair.size = 2 := rfl
    rw [hes] at hcl htk
    have hgh : h ≠ g := fun e => hne (by rw [e]; rfl)
    obtain ⟨i0, z0, hu, hinfo, hzero, hsize, hbytes, hzs, _⟩ := row_pair
    rw [hes] at hsize hzs
    have hxs : ∀ j v, (ePair.cells x)[j]? = some v → w.cell? ((⟨h, 0, none⟩ : Addr).add j) = some v := fun j v hj => by
      rw [add_lit, Nat.zero_add]
      have h1 : j < 2 := (List.getElem?_eq_some_iff.1 hj).1
      have := hx.cell 0 (by simp) j h1
      rw [Nat.zero_mul, Nat.zero_add] at this
      rw [this, ← hj]
      rfl
    have h1x : ∀ v ∈ ePair.cells x, v.oneCell' = true := ePair.one x
    have h1d : ∀ v ∈ (l.drop i).flatMap ePair.cells, v.oneCell' = true := flat_one ePair _
    have hdl : ((l.drop i).flatMap ePair.cells).length = (l.length - i) * 2 := by rw [flat_len, List.length_drop]; rfl
    have hwn : IntKind.i64.wrap ((l.length : Int) + 1) = (l.length : Int) + 1 := IntWalk.i64_in _ (by omega)
    have hwi : IntKind.i64.wrap ((i : Int) + 1) = (i : Int) + 1 := IntWalk.i64_in _ (by omega)
    have tni : ((i : Int) + 1).toNat = i + 1 := by omega
    have tnn : ((l.length : Int) + 1).toNat = l.length + 1 := by omega
    have hnei : ¬ ((i : Int) = (l.length : Int)) := by omega
    have hnei' : ((i : Int) == (l.length : Int)) = false := by simp; omega
    have hci : ¬ (c = i) := by omega
    have bi1 : (i : Int) < (l.length : Int) := by omega
    have bi0 : (0 : Int) ≤ (i : Int) + 1 := by omega
    have bn0 : (0 : Int) ≤ (l.length : Int) + 1 := by omega
    have bi2 : (i : Int) ≤ (l.length : Int) + 1 := by omega
    have bi3 : (i : Int) + 1 ≤ (l.length : Int) + 1 := by omega
    by_cases hroom : l.length + 1 ≤ c
    · -- there is room
      have hov : ∀ lb cb, (callFunc 49 #[.slice (some ⟨h, 0, none⟩) 1 1, .slice (some ⟨g, (i + 1) * 2, none⟩) lb cb]).run Try.prog w = .ok (.value (.bool false)) w := fun lb cb => by
        rw [run_callFunc_extern Try.func49 (by kernel_rfl) (by kernel_rfl) (by kernel_rfl) (e := Extern.SlicesOverlaps.overlaps #[48, 48] #[4]) (by kernel_rfl),
          Lib.run_overlaps_apart w 48 4 68 hu 2 (fun w => by simp [sizeOf, typeInfo, hinfo, hsize]) ⟨h, 0, none⟩ ⟨g, (i + 1) * 2, none⟩ 1 1 lb cb hgh 68 68 2 (c * 2)
            (by have h3 := hx; unfold AR at h3; simp [World.shape?, h3, ePair]) (by have h3 := hbk; unfold BK at h3; simp [World.shape?, h3, hcl]) (by omega) (hx.frozen _) (hx.frozen _)]
        rfl
      have hcp1 : ∀ ty dc sc, (Builtin.copy_ #[48, 48] ty #[.slice (some ⟨g, (i + 1) * 2, none⟩) (l.length - i) dc, .slice (some ⟨g, i * 2, none⟩) (l.length + 1 - i) sc]).run Try.prog w.drew =
          .ok (goInt (Nat.min (l.length + 1 - i) (l.length - i))) (w.drew.setRow g (splice cur ((i + 1) * 2) ((l.drop i).flatMap ePair.cells)).toArray) := fun ty dc sc =>
        run_copyK hinfo hu ((i + 1) * 2) _ dc ⟨g, i * 2, none⟩ _ sc (w := w.drew) (t := 68) hbk (by rw [hdl, hsize]; simp only [Nat.min_def]; split <;> omega)
          (fun j v hj => by rw [add_lit]; exact cells_drop (E := ePair) hbk htk i (by omega) j v hj) (by omega) h1d
      obtain ⟨cur1, hcur1⟩ : ∃ cur1, cur1 = splice cur ((i + 1) * 2) ((l.drop i).flatMap ePair.cells) := ⟨_, rfl⟩
      have hcl1 : cur1.length = c * 2 := by rw [hcur1, splice_len _ _ _ (by omega)]; exact hcl
      rw [← hcur1] at hcp1
      have hcp2 : ∀ W, BK W g 68 cur1 → (∀ j v, (ePair.cells x)[j]? = some v → W.cell? ((⟨h, 0, none⟩ : Addr).add j) = some v) → ∀ ty dc, (Builtin.copy_ #[48, 48] ty #[.slice (some ⟨g, i * 2, none⟩) (l.length + 1 - i) dc, .slice (some ⟨h, 0, none⟩) 1 1]).run Try.prog W =
          .ok (goInt (Nat.min 1 (l.length + 1 - i))) (W.setRow g (splice cur1 (i * 2) (ePair.cells x)).toArray) := fun W hb hxs ty dc =>
        run_copyK hinfo hu (i * 2) _ dc ⟨h, 0, none⟩ 1 1 hb (by rw [hsize, show Nat.min 1 (l.length + 1 - i) = 1 from by simp only [Nat.min_def]; split <;> omega]; rfl) hxs (by rw [hcl1]; show i * 2 + 2 ≤ _; omega) h1x
      have HBK := hide hbk
      have HFIN := hide (insert_take cur l x i c hlt hroom hcl htk)
      rw [← hcur1] at HFIN
      have HCL1 := hide hcl1
      have HXS := hide hxs
      have HCP1 := hide hcp1
      have HCP2 := hide hcp2
      have HBg := hide hBg
      have HCM := hide hcm
      have HX2 := hide hgh
      have bnr : (l.length : Int) + 1 ≤ (c : Int) := by omega
      have bci : ¬ (c = i + 1) := by omega
      clear hcp1 hcp2 hcur1 hcl1 hbk htk hcl hxs hx hinfo hzero hsize hbytes hzs h1x h1d hdl hB ho hne
      go_enter Try.func47, Try.ntmps47
      go_wp2_with (simp only [hov])
      go_region_law (refine step_copy rfl (.tmp 73) (.tmp 76) rfl (.slice (some ⟨g, (i + 1) * 2, none⟩) (l.length - i) (c - (i + 1))) (.slice (some ⟨g, i * 2, none⟩) (l.length + 1 - i) (c - i)) (by simp [Act.eval, Act.put]) (by simp [Act.eval, Act.put]) (w := w.drew) HBK.out (fun ty => HCP1.out ty _ _) ?_; intro w2 hb2 hk2)
      have hk2' : Kg g w w2 := (Kg.of (Kp.refl w).drew).trans hk2
      have HXS2 : Hid (∀ j v, (ePair.cells x)[j]? = some v → w2.cell? ((⟨h, 0, none⟩ : Addr).add j) = some v) := hide (fun j v hj => by
        rw [← HXS.out j v hj, add_lit]
        exact World.cell?_of_block (hk2'.block HX.out.lt HX2.out))
      go_wp2_with ((with_reducible refine list_copy ?_ (.tmp 80) (.tmp 81) ?_ (.slice (some ⟨g, i * 2, none⟩) (l.length + 1 - i) (c - i)) (.slice (some ⟨h, 0, none⟩) 1 1) ?_ ?_ hb2.out (fun ty => HCP2.out _ hb2.out HXS2.out ty (c - i)) ?_); (with_reducible rfl); (with_reducible rfl); rfl; rfl; intro w3 hb3 hk3)
      go_ret
      have hll : (l.take i ++ [x] ++ l.drop i).length = l.length + 1 := by simp; omega
      refine ⟨_, rfl, ?_, (show w.grownBy w3 (some g) from hk2'.trans hk3), .inl rfl⟩
      rw [← hll]
      exact BK.ow (E := ePair) hb3.out HBg.out (by omega) HCM.out (by
        have h9 := HCL1.out
        rw [splice_len _ _ _ (by rw [h9]; show i * 2 + 2 ≤ _; omega), h9]; rfl) HFIN.out
    · -- no room: a new block
      obtain ⟨G, C, Z, hG1, hG2, hZ, hC, hrz⟩ := grow_zeros l i g c w hbk htk hlt hc (by omega) hn
      have hG3 : G ≤ 9223372036854775807 := by unfold maxLen at hG2; omega
      have hCl : C.length = G * 2 := by rw [hC, List.length_append, flat_len, List.length_take, Nat.min_eq_left (by omega), hes]; exact hZ
      have HFIN := hide (insert_new cur Z l x i c G hlt hG1 hZ)
      rw [← hC] at HFIN
      have hcpA : ∀ W, BK W w.heap.size 68 C → (∀ j v, (ePair.cells x)[j]? = some v → W.cell? ((⟨h, 0, none⟩ : Addr).add j) = some v) → ∀ ty dc, (Builtin.copy_ #[48, 48] ty #[.slice (some ⟨w.heap.size, i * 2, none⟩) (l.length + 1 - i) dc, .slice (some ⟨h, 0, none⟩) 1 1]).run Try.prog W =
          .ok (goInt (Nat.min 1 (l.length + 1 - i))) (W.setRow w.heap.size (splice C (i * 2) (ePair.cells x)).toArray) := fun W hb hxs ty dc =>
        run_copyK hinfo hu (i * 2) _ dc ⟨h, 0, none⟩ 1 1 hb (by rw [hsize, show Nat.min 1 (l.length + 1 - i) = 1 from by simp only [Nat.min_def]; split <;> omega]; rfl) hxs (by rw [hCl]; show i * 2 + 2 ≤ _; omega) h1x
      obtain ⟨C1, hC1⟩ : ∃ C1, C1 = splice C (i * 2) (ePair.cells x) := ⟨_, rfl⟩
      have hC1l : C1.length = G * 2 := by rw [hC1, splice_len _ _ _ (by rw [hCl]; show i * 2 + 2 ≤ _; omega)]; exact hCl
      rw [← hC1] at hcpA HFIN
      have hcpB : ∀ W, BK W w.heap.size 68 C1 → BK W g 68 cur → ∀ ty dc sc, (Builtin.copy_ #[48, 48] ty #[.slice (some ⟨w.heap.size, (i + 1) * 2, none⟩) (l.length - i) dc, .slice (some ⟨g, i * 2, none⟩) (l.length - i) sc]).run Try.prog W =
          .ok (goInt (Nat.min (l.length - i) (l.length - i))) (W.setRow w.heap.size (splice C1 ((i + 1) * 2) ((l.drop i).flatMap ePair.cells)).toArray) := fun W hb hbg ty dc sc =>
        run_copyK hinfo hu ((i + 1) * 2) _ dc ⟨g, i * 2, none⟩ _ sc hb (by rw [hdl, hsize]; simp only [Nat.min_def]; split <;> omega)
          (fun j v hj => by rw [add_lit]; exact cells_drop (E := ePair) hbg htk i (by omega) j v hj) (by omega) h1d
      have HBK := hide hbk
      have HXS := hide hxs
      have HCA := hide hcpA
      have HCB := hide hcpB
      have HBg := hide hBg
      have HX2 := hide hgh
      have HG2 := hide hG2
      have HC1L := hide hC1l
      have HB := hide hB
      have HN : Hid (g ≠ w.heap.size) := hide (by omega)
      have HNEW : Hid (BK (w.drew.alloc (.cells C.toArray 68)) w.heap.size 68 C) := hide (heap_alloc_new w.drew _)
      have bnr : (c : Int) < (l.length : Int) + 1 := by omega
      have bG1 : ¬ (G = i) := by omega
      have bG2 : ¬ (G = i + 1) := by omega
      have bG3 : (l.length : Int) + 1 ≤ (G : Int) := by omega
      have bw1 : IntKind.i64.wrap ((l.length : Int) + 1 - (i : Int)) = (l.length : Int) + 1 - (i : Int) := IntWalk.i64_in _ (by omega)
      have K1 : Hid (Kp w (w.drew.alloc (.cells C.toArray 68))) := hide (Kp.refl w).drew.alloc
      obtain ⟨W1, hW1⟩ : ∃ W1, W1 = w.drew.alloc (.cells C.toArray 68) := ⟨_, rfl⟩
      rw [← hW1] at hrz K1 HNEW
      have HXS1 : Hid (∀ j v, (ePair.cells x)[j]? = some v → W1.cell? ((⟨h, 0, none⟩ : Addr).add j) = some v) := hide (fun j v hj => by
        rw [← HXS.out j v hj, add_lit]
        exact World.cell?_of_block (K1.out.bel.block _ HX.out.lt))
      have HBK1 := hide (HBK.out.kp K1.out)
      clear hcpA hcpB hC hC1 hC1l hCl hbk htk hcl hxs hx hinfo hzero hsize hbytes hzs h1x h1d hdl hB ho hne hW1 hroom hgw
      go_enter Try.func47, Try.ntmps47
      go_wp2_with (first
        | (at_builtin; (with_reducible refine Lib.wpList_append_run _ ?_ (.tmp 34) (.tmp 39) _ _ ?_ (.slice (some ⟨g, 0, none⟩) i c) (.int .i64 ((l.length : Int) + 1 - (i : Int))) ?_ ?_ _ _ (hrz _) ?_); (with_reducible rfl); (with_reducible rfl); rfl; rfl)
        | ((with_reducible refine list_copy ?_ (.tmp 43) (.tmp 44) ?_ (.slice (some ⟨w.heap.size, i * 2, none⟩) (l.length + 1 - i) (G - i)) (.slice (some ⟨h, 0, none⟩) 1 1) ?_ ?_ HNEW.out (fun ty => HCA.out _ HNEW.out HXS1.out ty (G - i)) ?_); (with_reducible rfl); (with_reducible rfl); rfl; rfl; intro w2 hb2 hk2))
      have hbk2 := hide (HBK1.out.kg HN.out hk2)
      go_region_law (refine step_copy rfl (.tmp 50) (.tmp 53) rfl (.slice (some ⟨w.heap.size, (i + 1) * 2, none⟩) (l.length - i) (G - (i + 1))) (.slice (some ⟨g, i * 2, none⟩) (l.length - i) (c - i)) (by simp [Act.eval, Act.put]) (by simp [Act.eval, Act.put]) (w := w2.drew) hb2.out (fun ty => HCB.out w2.drew hb2.out hbk2.out ty _ _) ?_; intro w3 hb3 hk3)
      go_wp2
      go_ret
      have hll : (l.take i ++ [x] ++ l.drop i).length = l.length + 1 := by simp; omega
      have hk23 : Kg w.heap.size W1 w3 := (hk2.trans (Kg.of (Kp.refl w2).drew)).trans hk3
      have hkw : Kp w w3 := hk23.kp K1.out (Nat.le_refl _)
      refine ⟨_, rfl, ?_, (show w.grownBy w3 (some g) from Kg.of hkw), .inr ⟨w.heap.size, rfl, Nat.le_refl _⟩⟩
      rw [← hll]
      exact BK.ow (E := ePair) hb3.out HB.out (by omega) HG2.out (by
        have h9 := HC1L.out
        rw [splice_len _ _ _ (by rw [h9, flat_len, List.length_drop]; show (i + 1) * 2 + (l.length - i) * 2 ≤ _; omega), h9]; rfl) HFIN.out
end Go.Proofs.Ytmhabjjabdambaa
