/-
  A map that the call makes and that counts: how often each number came. Conditions: none.
  hedgref.HalfAnswered's closure: the nearest number that is there, above or below. Conditions: the map holds just the numbers of S (HM).
  hedgref.SortedKeys: what it answers. Conditions: the list reads as l (RD), its numbers are unlike and not less than 0.
  hedgref.HalfAnswered: what it answers. Conditions: the list reads as ops (RD), at most 300.
  half.Ends, as HalfSays reckons it. No program. Conditions: none.
  hedglaw.HalfSays: the walk: it answers true. Conditions: the lists read as ops and keys (RD).
  hedglaw.HalfSays: THE STATEMENT: for every input it answers true. Conditions: none.
-/
import Derived.Test.YtmhabjjabdambaaG1
import Derived.Maps.OwnOps
import Derived.Maps.Views
import Derived.Test.YtmhabjjabdambaaG16
import Derived.Test.YtmhabjjabdambaaG9
import Derived.Maps.RangeWalk
import Derived.Maps.OwnSet
import Derived.Test.YtmhabjjabdambaaG11
import Derived.Test.YtmhabjjabdambaaG2

namespace Go.Proofs.Ytmhabjjabdambaa
open Go.ChangeShapes Go.WideShapes Go.ChangeAt Go.RowKit Go.Maps
set_option linter.unusedVariables false
set_option linter.unusedSimpArgs false

def cntMD : List Int → DataW Unit
  | [] => .map []
  | x :: t => (cntMD t).put (.int .i64 x) (.lit (.int .i64 ((t.count x : Nat) + 1 : Int)))
theorem cntMD_map : ∀ l, IsMap (cntMD l)
  | [] => ⟨[], rfl⟩
  | x :: t => (cntMD_map t).put _ _
theorem cntMD_at : ∀ (l : List Int) (y : Int), (cntMD l).atKey (.int .i64 y) (.lit (.int .i64 0)) = .lit (.int .i64 ((l.count y : Nat) : Int))
  | [], y => rfl
  | x :: t, y => by
    rw [cntMD]
    by_cases hxy : y = x
    · subst hxy
      rw [atKey_put_same (cntMD_map t) (show WideAt.IsKeyLit (.int .i64 y) from trivial)]; simp
    · rw [atKey_put_other (by intro e; injection e with _ e; exact hxy e), cntMD_at t y]
      have : ¬ (x == y) = true := by simp; exact fun e => hxy e.symm
      simp [List.count_cons, this]
theorem wf_in2 {n : Int} (h : -9223372036854775808 ≤ n ∧ n ≤ 9223372036854775807) : (Lit.int .i64 n).wf = true := by
  simp [Lit.wf, IntKind.min, IntKind.max, IntKind.signed, IntKind.bits]
  omega
theorem int_law2 : Keyed Try.prog 3 := int_keyed Try.underlying3
theorem int_zero2 (w : World) : (zeroValue 3).run Try.prog w = .ok (.int .i64 0) w := by kernel_rfl
end Go.Proofs.Ytmhabjjabdambaa
namespace Go.Proofs.Ytmhabjjabdambaa
open Go.ChangeShapes Go.WideShapes Go.ChangeAt Go.RowKit Go.Maps
set_option linter.unusedVariables false
set_option linter.unusedSimpArgs false

abbrev kI (y : Int) : Lit := .int .i64 y
theorem kI_ne {x y : Int} (h : x ≠ y) : kI x ≠ kI y := fun e => by injection e with _ e; exact h e
theorem kI_key (y : Int) : WideAt.IsKeyLit (kI y) := trivial
/-- The map holds just the numbers of S, each with 1. -/
structure HM (D : DataW Unit) (S : List Int) : Prop where
  tidy : Tidy D
  val : ∀ y, D.atKey (kI y) (.lit (kI 0)) = .lit (kI (if y ∈ S then 1 else 0))
  hs : ∀ y, has D (kI y) = decide (y ∈ S)
theorem HM.nil : HM (.map []) [] := ⟨tidy_empty, fun y => rfl, fun y => rfl⟩
theorem HM.put {D : DataW Unit} {S : List Int} (h : HM D S) (x : Int) : HM (D.put (kI x) (.lit (kI 1))) (insU S x) := by
  refine ⟨h.tidy.put (kI_key x) _, fun y => ?_, fun y => ?_⟩
  · by_cases e : y = x
    · subst e
      rw [atKey_put_same h.tidy.isMap (kI_key y), if_pos (insU_mem.2 (.inl rfl))]
    · rw [atKey_put_other (kI_ne e), h.val]
      simp [insU_mem, e]
  · by_cases e : y = x
    · subst e
      rw [has_put_same h.tidy.isMap (kI_key y)]
      simp [insU_mem]
    · rw [has_put_other (kI_ne e), h.hs]
      simp [insU_mem, e]
theorem HM.del {D : DataW Unit} {S : List Int} (h : HM D S) (x : Int) : HM (D.del (kI x)) (delU S x) := by
  refine ⟨h.tidy.del _, fun y => ?_, fun y => ?_⟩
  · by_cases e : y = x
    · subst e
      rw [atKey_del_same]; simp [delU_mem]
    · rw [atKey_del_other (kI_ne e), h.val]
      simp [delU_mem, e]
  · by_cases e : y = x
    · subst e
      rw [has_del_same]; simp [delU_mem]
    · rw [has_del_other (kI_ne e), h.hs]
      simp [delU_mem, e]
/-- What the loop over the map has found. -/
def NrI (S : List Int) (key s : Int) (left : Lit → Bool) (bst : Int) (is : Bool) : Prop :=
  (is = false → bst = 0 ∧ ∀ y ∈ S, left (kI y) = false → ¬ 0 < (y - key) * s) ∧
  (is = true → bst ∈ S ∧ 0 < (bst - key) * s ∧ ∀ y ∈ S, left (kI y) = false → 0 < (y - key) * s → ¬ 0 < (bst - y) * s)
theorem struck {left : Lit → Bool} {x y : Int} (h : (left (kI y) && !(kI y).sameKey (kI x)) = false) : y = x ∨ left (kI y) = false := by
  by_cases e : y = x
  · exact .inl e
  · rw [sameKey_ne (kI_ne e)] at h
    exact .inr (by simpa using h)
theorem NrI.no {S : List Int} {key s : Int} {left : Lit → Bool} {bst : Int} {is : Bool} (h : NrI S key s left bst is) {x : Int} (hx : ¬ 0 < (x - key) * s) : NrI S key s (fun z => left z && !z.sameKey (kI x)) bst is :=
  ⟨fun e => ⟨(h.1 e).1, fun y hy hl => (struck hl).elim (fun e2 => e2 ▸ hx) ((h.1 e).2 y hy)⟩,
   fun e => ⟨(h.2 e).1, (h.2 e).2.1, fun y hy hl hp => (struck hl).elim (fun e2 => absurd (e2 ▸ hp) hx) (fun hl => (h.2 e).2.2 y hy hl hp)⟩⟩
theorem NrI.keep {S : List Int} {key s : Int} {left : Lit → Bool} {bst : Int} (h : NrI S key s left bst true) {x : Int} (hx : ¬ 0 < (bst - x) * s) : NrI S key s (fun z => left z && !z.sameKey (kI x)) bst true :=
  ⟨fun e => (by cases e), fun e => ⟨(h.2 e).1, (h.2 e).2.1, fun y hy hl hp => (struck hl).elim (fun e2 => e2 ▸ hx) (fun hl => (h.2 e).2.2 y hy hl hp)⟩⟩
theorem NrI.take0 {S : List Int} {key s : Int} {left : Lit → Bool} {bst : Int} (h : NrI S key s left bst false) {x : Int} (hS : x ∈ S) (hx : 0 < (x - key) * s) : NrI S key s (fun z => left z && !z.sameKey (kI x)) x true :=
  ⟨fun e => (by cases e), fun _ => ⟨hS, hx, fun y hy hl hp => (struck hl).elim (fun e2 => by subst e2; simp) (fun hl => absurd hp ((h.1 rfl).2 y hy hl))⟩⟩
theorem NrI.take1 {S : List Int} {key s : Int} (hs : s = 1 ∨ s = -1) {left : Lit → Bool} {bst : Int} (h : NrI S key s left bst true) {x : Int} (hS : x ∈ S) (hx : 0 < (x - key) * s) (hb : 0 < (bst - x) * s) : NrI S key s (fun z => left z && !z.sameKey (kI x)) x true :=
  ⟨fun e => (by cases e), fun _ => ⟨hS, hx, fun y hy hl hp => (struck hl).elim (fun e2 => by subst e2; simp) (fun hl => by
    have := (h.2 rfl).2.2 y hy hl hp
    rcases hs with rfl | rfl <;> omega)⟩⟩
def nearO (S : List Int) (key s : Int) : Option Int := if s = 1 then nxU S key else pvU S key
theorem NrI.done {S : List Int} (hu : UpL S) {key s : Int} (hs : s = 1 ∨ s = -1) {left : Lit → Bool} (hl : ∀ k, left k = false) {bst : Int} {is : Bool} (h : NrI S key s left bst is) : ansN (nearO S key s) = ⟨0, bst, 0, is⟩ := by
  cases is with
  | false =>
    obtain ⟨rfl, h2⟩ := h.1 rfl
    have : nearO S key s = none := by
      unfold nearO
      rcases hs with rfl | rfl
      · rw [if_pos rfl, nxU_none]; intro y hy hk; exact h2 y hy (hl _) (by omega)
      · rw [if_neg (by decide), pvU_none]; intro y hy hk; exact h2 y hy (hl _) (by omega)
    rw [this]; rfl
  | true =>
    obtain ⟨h1, h2, h3⟩ := h.2 rfl
    have : nearO S key s = some bst := by
      unfold nearO
      rcases hs with rfl | rfl
      · rw [if_pos rfl, nxU_iff hu]; exact ⟨h1, by omega, fun y hy hk => by have := h3 y hy (hl _) (by omega); omega⟩
      · rw [if_neg (by decide), pvU_iff hu]; exact ⟨h1, by omega, fun y hy hk => by have := h3 y hy (hl _) (by omega); omega⟩
    rw [this]; rfl
def NrRel (S : List Int) (key s : Int) (m r n : Nat) (D : DataW Unit) (w : World) (bv iv : Value) (wr : World) : Prop :=
  ∃ (left : Lit → Bool) (cnt : Nat) (bst : Int) (is : Bool), wr.ranges Try.prog 3 (plainElem (H := Unit) Try.prog 3) m r n D left cnt ∧ bv = .int .i64 bst ∧ iv = .bool is ∧ (∀ y, left (kI y) = true → y ∈ S) ∧ NrI S key s left bst is ∧ Kp w wr
set_option maxRecDepth 100000 in
set_option maxHeartbeats 8000000 in
theorem near_any (S : List Int) (key s : Int) (t m n : Nat) (D : DataW Unit) (w : World) (hst : HSt S) (hk : 0 ≤ key ∧ key ≤ 65535) (hs : s = 1 ∨ s = -1) (hD : HM D S)
    (hown : w.ownsMap Try.prog 3 (plainElem (H := Unit) Try.prog 3) m n D) (hc : w.cell? ⟨t, 0, none⟩ = some (.map (some m))) :
    Calls Try.prog 26 #[.int .i64 key, .int .i64 s, .pointer (some ⟨t, 0, none⟩)] w (Ret (ansN (nearO S key s)).v w) := by
  have HD := hide hD
  have HS := hide hst
  have HSS := hide hs
  obtain ⟨W1, hW1⟩ : ∃ W1, W1 = w.alloc (.cells #[.int .i64 0, .int .i64 0, .int .i64 0, .bool false] 39) := ⟨_, rfl⟩
  have HB := hide (show BC W1 w.heap.size 39 [.int .i64 0, .int .i64 0, .int .i64 0, .bool false] by rw [hW1]; exact BC.new w 39 [.int .i64 0, .int .i64 0, .int .i64 0, .bool false])
  have hown1 : W1.ownsMap Try.prog 3 (plainElem (H := Unit) Try.prog 3) m n D := by rw [hW1]; exact hown.alloc _
  have hk1 : Kp w W1 := by rw [hW1]; exact (Kp.refl w).alloc
  have hz1 : W1.heap.size = w.heap.size + 1 := by rw [hW1]; simp
  have hc1 := hk1.cell hc
  have HK1 := hide hk1
  have HZ1 := hide hz1
  have HW1 := hide hW1
  clear hD hst hs hown hk1 hz1 hW1
  have hown0 : (w.alloc (.cells #[.int .i64 0, .int .i64 0, .int .i64 0, .bool false] 39)).ownsMap Try.prog 3 (plainElem (H := Unit) Try.prog 3) m n D := by rw [← HW1.out]; exact hown1
  have hc0 : (w.alloc (.cells #[.int .i64 0, .int .i64 0, .int .i64 0, .bool false] 39)).cell? ⟨t, 0, none⟩ = some (.map (some m)) := by rw [← HW1.out]; exact hc1
  go_enter Try.func26, Try.ntmps26
  go_wp2_with (at_range; refine wpList_range_own _ rfl _ 60 rfl 3 3 int_law2 Try.underlying60 _ m n D rfl hown0 ?_; rw [← HW1.out]; intro w0 hrg0 hg0 hs0)
  try go_frame
  have k0 : Kp W1 w0 := Below.grown (Kp.refl W1) hg0 (Nat.le_refl _) (fun j hj => by cases hj)
  have HREL : Hid (NrRel S key s m W1.heap.size n D W1 (.int .i64 0) (.bool false) w0) := hide ⟨_, _, 0, false, hrg0, rfl, rfl, fun y hy => by
    have := HD.out.hs y; rw [hy] at this; simpa using this.symm, ⟨fun _ => ⟨rfl, fun y hy hl => by have := HD.out.hs y; rw [hl] at this; simp [hy] at this⟩, fun e => by cases e⟩, k0⟩
  clear hrg0 hg0 hs0 k0
  go_loopw [6, 7] (NrRel S key s m W1.heap.size n D W1) (fun _ _ wr => wr.rangeLeft m W1.heap.size)
  case atStart => exact HREL.out
  case round =>
    clear HREL
    obtain ⟨left, cnt, bst, is, hrg, rfl, rfl, hls, hI, hkp⟩ := hrel
    have HI := hide hI
    have HLS := hide hls
    have HBW := hide (HB.out.kp hkp)
    have HKW := hide hkp
    clear hI hls hkp
    go_wp2_with (at_next; refine wpList_next_ranges_ii _ rfl _ rfl 3 3 .i64 .i64 int_law2 Try.underlying3 Try.underlying3 m W1.heap.size n _ _ _ rfl hrg ?_ ?_)
    · intro hc0 hl0
      have hdone := HI.out.done HS.out.1 HSS.out hl0
      have HDN := hide hdone
      have r0 : _ = some (Value.int .i64 0) := (HBW.out).cell 0
      have r1 : _ = some (Value.int .i64 0) := (HBW.out).cell 1
      have r2 : _ = some (Value.int .i64 0) := (HBW.out).cell 2
      have r3 : _ = some (Value.bool false) := (HBW.out).cell 3
      have q0 := (HBW.out).frozen 0
      have q1 := (HBW.out).frozen 1
      have q2 := (HBW.out).frozen 2
      have q3 := (HBW.out).frozen 3
      clear hdone
      go_wp2
      refine bodyPost_ret (v := (⟨0, bst, 0, is⟩ : An).v) ?_ ?_ ?_
      · exact results_cell_row rfl _ _ w.heap.size 39 _ (0, 0) _ rfl (ans_bc HBW.out) Try.underlying39 rfl info_ans4
      · rfl
      exact ⟨by rw [HDN.out], Kp.bel ((((HK1.out.trans HKW.out).setR (Nat.le_refl _)).setR (Nat.le_refl _)).setR (Nat.le_refl _) |>.setR (Nat.le_refl _))⟩
    · intro x c w1 cnt1 hwx hwc hlx hat hrg1 hlt hg1 hs1 hen
      have hxS := HLS.out x hlx
      have hxb := HS.out.2 x hxS
      have hk2 : Kp W1 w1 := Below.grown HKW.out hg1 HKW.out.size (fun j hj => by cases hj; exact Nat.le_refl _)
      have HM1 : Hid (w1.rangeLeft m W1.heap.size < wr.rangeLeft m W1.heap.size) := hide (by rw [hrg1.left_eq, hrg.left_eq]; exact hlt)
      have HL1 : Hid (∀ y, (left (kI y) && !(kI y).sameKey (kI x)) = true → y ∈ S) := hide (fun y hy => HLS.out y (by simp at hy; exact hy.1))
      have HRG := hide hrg1
      have HK2 := hide hk2
      obtain ⟨X1, hX1⟩ : ∃ X1, X1 = x - key := ⟨_, rfl⟩
      obtain ⟨X2, hX2⟩ : ∃ X2, X2 = (x - key) * s := ⟨_, rfl⟩
      have b2 : -65535 ≤ X2 ∧ X2 ≤ 65535 := by rcases HSS.out with e | e <;> subst e <;> omega
      have j1 : IntKind.i64.wrap (x - key) = X1 := by rw [IntWalk.i64_in _ (by omega), hX1]
      have j2 : IntKind.i64.wrap (X1 * s) = X2 := by rw [hX1, ← hX2, IntWalk.i64_in _ (by omega)]
      clear hwx hwc hlx hat hrg1 hlt hg1 hs1 hk2 hrg
      by_cases hp : 0 < X2
      · have d0 : decide (0 < X2) = true := decide_eq_true hp
        have hp' : 0 < (x - key) * s := hX2 ▸ hp
        cases is with
        | false =>
          have HN := hide (HI.out.take0 hxS hp')
          clear hX1 hX2 hp hp' hxS hxb b2
          go_wp2
          go_roundw
          case rel => exact ⟨_, cnt1, x, true, HRG.out, rfl, rfl, HL1.out, HN.out, HK2.out⟩
          case measure => exact HM1.out
        | true =>
          have hbb := HS.out.2 bst (HI.out.2 rfl).1
          obtain ⟨Y1, hY1⟩ : ∃ X1, X1 = bst - x := ⟨_, rfl⟩
          obtain ⟨Y2, hY2⟩ : ∃ X2, X2 = (bst - x) * s := ⟨_, rfl⟩
          have b3 : -65535 ≤ Y2 ∧ Y2 ≤ 65535 := by rcases HSS.out with e | e <;> subst e <;> omega
          have j3 : IntKind.i64.wrap (bst - x) = Y1 := by rw [IntWalk.i64_in _ (by omega), hY1]
          have j4 : IntKind.i64.wrap (Y1 * s) = Y2 := by rw [hY1, ← hY2, IntWalk.i64_in _ (by omega)]
          by_cases hq : 0 < Y2
          · have d1 : decide (0 < Y2) = true := decide_eq_true hq
            have HN := hide (HI.out.take1 HSS.out hxS hp' (hY2 ▸ hq))
            clear hX1 hX2 hp hp' hxS hxb b2 hY1 hY2 hbb b3 hq
            go_wp2
            go_roundw
            case rel => exact ⟨_, cnt1, x, true, HRG.out, rfl, rfl, HL1.out, HN.out, HK2.out⟩
            case measure => exact HM1.out
          · have d1 : decide (0 < Y2) = false := decide_eq_false hq
            have HN := hide (HI.out.keep (x := x) (fun h => hq (hY2 ▸ h)))
            clear hX1 hX2 hp hp' hxS hxb b2 hY1 hY2 hbb b3 hq
            go_wp2
            go_roundw
            case rel => exact ⟨_, cnt1, bst, true, HRG.out, rfl, rfl, HL1.out, HN.out, HK2.out⟩
            case measure => exact HM1.out
      · have d0 : decide (0 < X2) = false := decide_eq_false hp
        have HN := hide (HI.out.no (x := x) (fun h => hp (hX2 ▸ h)))
        clear hX1 hX2 hp hxS hxb b2
        go_wp2
        go_roundw
        case rel => exact ⟨_, cnt1, bst, is, HRG.out, rfl, rfl, HL1.out, HN.out, HK2.out⟩
        case measure => exact HM1.out
end Go.Proofs.Ytmhabjjabdambaa
namespace Go.Proofs.Ytmhabjjabdambaa
open Go.ChangeShapes Go.WideShapes Go.ChangeAt Go.RowKit
set_option linter.unusedVariables false
set_option linter.unusedSimpArgs false

/-- What the search for the next key has met. -/
def Mn (l : List Int) (j : Nat) (la ne : Int) : Prop := (ne = -1 ∧ ∀ x ∈ l.take j, ¬ la < x) ∨ (la < ne ∧ 0 ≤ ne ∧ ne ∈ l.take j ∧ ∀ x ∈ l.take j, la < x → ne ≤ x)
theorem Mn.snoc {l : List Int} {j : Nat} (hj : j < l.length) {la ne : Int} (h : Mn l j la ne) (h0 : 0 ≤ l[j]) :
    (la < l[j] → (ne < 0 ∨ l[j] < ne) → Mn l (j + 1) la l[j]) ∧ (¬ (la < l[j] ∧ (ne < 0 ∨ l[j] < ne)) → Mn l (j + 1) la ne) := by
  have ht := List.take_succ_eq_append_getElem hj
  have hm : ∀ x, x ∈ l.take (j + 1) ↔ x ∈ l.take j ∨ x = l[j] := fun x => by rw [ht, List.mem_append, List.mem_singleton]
  constructor
  · intro h1 h2
    refine .inr ⟨h1, h0, (hm _).2 (.inr rfl), fun x hx hl => ?_⟩
    rcases (hm x).1 hx with hx | rfl
    · rcases h with ⟨e, h⟩ | ⟨a, b, c, d⟩
      · exact absurd hl (h x hx)
      · have := d x hx hl; omega
    · exact Int.le_refl _
  · intro h1
    rcases h with ⟨e, h⟩ | ⟨a, b, c, d⟩
    · refine .inl ⟨e, fun x hx => ?_⟩
      rcases (hm x).1 hx with hx | rfl
      · exact h x hx
      · intro h9; exact h1 ⟨h9, by omega⟩
    · refine .inr ⟨a, b, (hm _).2 (.inl c), fun x hx hl => ?_⟩
      rcases (hm x).1 hx with hx | rfl
      · exact d x hx hl
      · apply Decidable.byContradiction; intro h9; exact h1 ⟨hl, by omega⟩
/-- The next one is the one in its place. -/
theorem Mn.end_ {l S : List Int} {i : Nat} {la ne : Int} (h : Mn l l.length la ne) (hS : S.Pairwise (fun a b => a < b)) (hm : ∀ y, y ∈ S ↔ y ∈ l) (hi : i < S.length) (hla : ∀ j (h : j < S.length), la < S[j] ↔ i ≤ j) : ne = S[i] := by
  rw [Mn, List.take_length] at h
  have hup := List.pairwise_iff_getElem.1 hS
  rcases h with ⟨e, h⟩ | ⟨a, b, c, d⟩
  · exact absurd ((hla i hi).2 (Nat.le_refl _)) (h _ ((hm _).1 (List.getElem_mem hi)))
  · obtain ⟨m, hmm, he⟩ := List.getElem_of_mem ((hm _).2 c)
    have h1 := (hla m hmm).1 (by rw [he]; exact a)
    have h2 := d S[i] ((hm _).1 (List.getElem_mem hi)) ((hla i hi).2 (Nat.le_refl _))
    rcases Nat.lt_or_ge i m with h3 | h3
    · have := hup i m hi hmm h3; omega
    · obtain rfl : m = i := by omega
      exact he.symm
def SkRel (l S : List Int) (w : World) (ov lv iv : Value) (wr : World) : Prop := ∃ (i : Nat) (la : Int), i ≤ l.length ∧ iv = .int .i64 i ∧ lv = .int .i64 la ∧ OW wr w.heap.size 3 eInt ov (S.take i) ∧ (∀ j (h : j < S.length), la < S[j] ↔ i ≤ j) ∧ Kp w wr
def SjRel (l : List Int) (la : Int) (w : World) (nv jv : Value) (wr : World) : Prop := ∃ (j : Nat) (ne : Int), j ≤ l.length ∧ jv = .int .i64 j ∧ nv = .int .i64 ne ∧ Mn l j la ne ∧ w = wr
set_option maxRecDepth 100000 in
set_option maxHeartbeats 4000000 in
theorem sortedKeys_any (l S : List Int) (v : Value) (w : World) (hr : RD w eInt v l) (hn : l.length ≤ 1000) (hSl : S.length = l.length) (hS : S.Pairwise (fun a b => a < b)) (hm : ∀ y, y ∈ S ↔ y ∈ l) (hk : ∀ y ∈ l, 0 ≤ y) : Calls Try.prog 27 #[v] w (RetOW 3 eInt S w) := by
  obtain ⟨A, c, rfl, hc, hm9⟩ := hr.shape
  have HR := hide hr
  have HSL := hide hSl
  have HEND := hide (fun la ne i hi h hla => Mn.end_ (i := i) (la := la) (ne := ne) h hS hm hi hla)
  have HK := hide hk
  have HUP := hide (List.pairwise_iff_getElem.1 hS)
  have H0 : Hid (∀ j (h : j < S.length), (-1 : Int) < S[j] ↔ 0 ≤ j) := hide (fun j h => by have := hk _ ((hm _).1 (List.getElem_mem h)); omega)
  clear hr hSl hS hm hk
  go_enter Try.func27, Try.ntmps27
  go_wp2
  go_loopw [3, 4, 10] (SkRel l S w) (fun _ _ i _ => l.length - (intOf i).toNat)
  case atStart => exact ⟨0, -1, by omega, rfl, rfl, OW.nil, H0.out, Kp.refl _⟩
  case round =>
    obtain ⟨i, la, hi, rfl, rfl, ho, hla, hkp⟩ := hrel
    have hhi := ho.hi
    have HO := hide ho
    have HLA := hide hla
    clear ho hla
    by_cases hlt : i < l.length
    · go_wp2
      go_loopw [5, 14] (SjRel l la wr) (fun _ j _ => l.length - (intOf j).toNat)
      case atStart => exact ⟨0, -1, by omega, rfl, rfl, .inl ⟨rfl, by simp⟩, rfl⟩
      case round =>
        obtain ⟨j, ne, hj, rfl, rfl, hmn, rfl⟩ := hrel
        have HMN := hide hmn
        clear hmn
        by_cases hltj : j < l.length
        · obtain ⟨b, o, rfl, _, c0⟩ := (HR.out.kp hkp).int hltj
          have hs := HMN.out.snoc hltj (HK.out _ (List.getElem_mem hltj))
          obtain ⟨y, hy⟩ : ∃ y, y = l[j] := ⟨_, rfl⟩
          rw [← hy] at c0 hs
          obtain ⟨hs1, hs2⟩ := hs
          have HS1 := hide hs1
          have HS2 := hide hs2
          clear hy hs1 hs2
          by_cases h1 : la < y
          · by_cases h2 : ne < 0
            · have HN := hide (HS1.out h1 (.inl h2))
              go_wp2
              go_roundw
              case rel => exact ⟨j + 1, y, by omega, by go_num, rfl, HN.out, rfl⟩
              case measure => simp [intOf]; omega
            · by_cases h3 : y < ne
              · have HN := hide (HS1.out h1 (.inr h3))
                have d2 : decide (ne < 0) = false := by simp; omega
                go_wp2
                go_roundw
                case rel => exact ⟨j + 1, y, by omega, by go_num, rfl, HN.out, rfl⟩
                case measure => simp [intOf]; omega
              · have HN := hide (HS2.out (fun h => by omega))
                have d2 : decide (ne < 0) = false := by simp; omega
                have d3 : decide (y < ne) = false := by simp; omega
                go_wp2
                go_roundw
                case rel => exact ⟨j + 1, ne, by omega, by go_num, rfl, HN.out, rfl⟩
                case measure => simp [intOf]; omega
          · have HN := hide (HS2.out (fun h => h1 h.1))
            have d1 : decide (la < y) = false := by simp; omega
            go_wp2
            go_roundw
            case rel => exact ⟨j + 1, ne, by omega, by go_num, rfl, HN.out, rfl⟩
            case measure => simp [intOf]; omega
        · have hiS : i < S.length := by rw [HSL.out]; exact hlt
          have hne := HEND.out la ne i hiS (by have := HMN.out; rwa [show j = l.length by omega] at this) HLA.out
          have HN : Hid (S.take i ++ [ne] = S.take (i + 1)) := hide (by rw [List.take_succ_eq_append_getElem hiS, hne])
          have HLA2 : Hid (∀ j (h : j < S.length), ne < S[j] ↔ i + 1 ≤ j) := hide (fun j h => by
            rw [hne]
            constructor
            · intro h1
              rcases Nat.lt_or_ge i j with h2 | h2
              · exact h2
              · rcases Nat.lt_or_ge j i with h3 | h3
                · have := HUP.out j i h hiS h3; omega
                · obtain rfl : i = j := by omega
                  omega
            · intro h1; exact HUP.out i j hiS h h1)
          have HM1 : Hid (((S.take i).length + [ne].length) * 8 ≤ 140737488355328) := hide (by simp; omega)
          have HM2 : Hid ((S.take i).length + [ne].length ≤ maxLen) := hide (by simp [maxLen]; omega)
          clear hne hiS
          go_wp2_with (at_builtin; (with_reducible refine list_app (B := w.heap.size) (l := S.take i) (m := [ne]) row_int u3 ?_ (.tmp 32) (.tmp 34) ?_ ?_ ?_ ?_ HM1.out HM2.out ?_ ?_); (with_reducible rfl); (with_reducible rfl); rfl; (exact HO.out.alloc _); (show RD _ _ (.slice (some ⟨_, 0, none⟩) 1 1) _; (focus ((repeat (first | (with_reducible assumption) | exact RD.new1 _ rfl | (refine RD.new1e _ ?_ rfl; simp; done) | (with_reducible apply RD.alloc) | (with_reducible apply RD.drew) | (with_reducible apply RD.drewN) | ((with_reducible apply RD.belowR); (with_reducible assumption)))); done))); (have := hkp.size; simp; omega); intro v3 w3 ho3 hg3 hat3)
          go_roundw
          case rel => exact ⟨i + 1, ne, by omega, by go_num, rfl, by rw [← HN.out]; exact ho3, HLA2.out, Kp.app hg3 hkp.alloc hhi⟩
          case measure => simp [intOf]; omega
    · have HT : Hid (S.take i = S) := hide (List.take_of_length_le (by rw [HSL.out]; omega))
      go_wp2
      go_ret
      exact ⟨_, rfl, by rw [← HT.out]; exact HO.out, hkp.bel⟩
end Go.Proofs.Ytmhabjjabdambaa
namespace Go.Proofs.Ytmhabjjabdambaa
open Go.ChangeShapes Go.WideShapes Go.ChangeAt Go.RowKit Go.Maps
set_option linter.unusedVariables false
set_option linter.unusedSimpArgs false

section
variable {w w' : World} {m n : Nat} {D : DataW Unit}
theorem om_blk {P : Program} {k : TypeId} {R : Value → Option (DataW Unit × List MemPlace)} (h : w.ownsMap P k R m n D) (hb : w'.heap[m]? = w.heap[m]?) : w'.ownsMap P k R m n D := by
  obtain ⟨es, clock, h1, h2⟩ := h
  exact ⟨es, clock, hb.trans h1, h2⟩
theorem om_lt {P : Program} {k : TypeId} {R : Value → Option (DataW Unit × List MemPlace)} (h : w.ownsMap P k R m n D) : m < w.heap.size := h.lt
theorem om_kp {P : Program} {k : TypeId} {R : Value → Option (DataW Unit × List MemPlace)} (h : w.ownsMap P k R m n D) (hk : Kp w w') : w'.ownsMap P k R m n D := om_blk h (hk.bel.block m h.lt)
theorem bc_grown {i : Nat} {t : TypeId} {cs : List Value} {row : Option Nat} (h : BC w i t cs) (hg : w.grownBy w' row) (hn : some i ≠ row) : BC w' i t cs := (hg.block i h.lt hn).trans h
theorem om_bc_ne {P : Program} {k : TypeId} {R : Value → Option (DataW Unit × List MemPlace)} {i : Nat} {t : TypeId} {cs : List Value} (h : w.ownsMap P k R m n D) (hb : BC w i t cs) : i ≠ m := by
  rintro rfl
  obtain ⟨es, clock, h1, _⟩ := h
  rw [BC, h1] at hb
  cases hb
theorem om_ow_ne {P : Program} {k : TypeId} {R : Value → Option (DataW Unit × List MemPlace)} {B : Nat} {e : TypeId} {α : Type} {E : Enc α} {v : Value} {l : List α} (h : w.ownsMap P k R m n D) (ho : OW w B e E v l) : v.ownBlock ≠ some m := by
  intro e1
  obtain ⟨es, clock, h1, _⟩ := h
  rcases ho.2 with ⟨rfl, _⟩ | ⟨g, c, cur, rfl, hg, hblk, _⟩
  · cases e1
  · have : g = m := by simpa [Value.ownBlock] using e1
    subst this
    rw [h1] at hblk
    cases hblk
end
theorem rg_ow_ne {w : World} {P : Program} {k : TypeId} {R : Value → Option (DataW Unit × List MemPlace)} {m r n : Nat} {D : DataW Unit} {left : Lit → Bool} {cnt : Nat} {B : Nat} {e : TypeId} {α : Type} {E : Enc α} {v : Value} {l : List α} (h : w.ranges P k R m r n D left cnt) (ho : OW w B e E v l) : v.ownBlock ≠ some r := by
  intro e1
  obtain ⟨es, clock, since, seen, c0, h1, h2, h3, h4, h5, h6⟩ := h
  rcases ho.2 with ⟨rfl, _⟩ | ⟨g, c, cur, rfl, hg, hblk, _⟩
  · cases e1
  · have : g = r := by simpa [Value.ownBlock] using e1
    subst this
    rw [h5] at hblk
    cases hblk
theorem nodup_len_le : ∀ (a b : List Int), a.Nodup → (∀ x ∈ a, x ∈ b) → a.length ≤ b.length
  | [], b, _, _ => by simp
  | x :: a, b, hn, hs => by
    rw [List.nodup_cons] at hn
    have h1 := hs x (by simp)
    have := nodup_len_le a (b.erase x) hn.2 (fun y hy => by
      have : y ≠ x := fun e => hn.1 (e ▸ hy)
      exact (List.mem_erase_of_ne this).2 (hs y (by simp [hy])))
    rw [List.length_erase_of_mem h1] at this
    have := List.length_pos_of_mem h1
    simp; omega
theorem up_nodup {S : List Int} (h : UpL S) : S.Nodup := List.Pairwise.imp (fun h => by omega) h
abbrev OM (w : World) (m n : Nat) (D : DataW Unit) : Prop := w.ownsMap Try.prog 3 (plainElem (H := Unit) Try.prog 3) m n D
def HwR (ops : List O3) (w : World) (mb tb : Nat) (ov iv : Value) (wr : World) : Prop :=
  ∃ (k n : Nat) (D : DataW Unit), k ≤ ops.length ∧ iv = .int .i64 (k : Int) ∧ OM wr mb n D ∧ n ≤ k ∧ HM D (hRunL (ops.take k)).1 ∧ BC wr tb 60 [.map (some mb)] ∧ OW wr w.heap.size 39 eAns ov (hRunL (ops.take k)).2 ∧ Kp w wr
/-- The keys that the second loop has met. -/
def KyR (S : List Int) (m r n : Nat) (D : DataW Unit) (w : World) (ov : Value) (wr : World) : Prop :=
  ∃ (left : Lit → Bool) (cnt : Nat) (ks : List Int), wr.ranges Try.prog 3 (plainElem (H := Unit) Try.prog 3) m r n D left cnt ∧ OW wr w.heap.size 3 eInt ov ks ∧ ks.Nodup ∧ (∀ y ∈ ks, y ∈ S ∧ left (kI y) = false) ∧ (∀ y ∈ S, left (kI y) = false → y ∈ ks) ∧ (∀ y, left (kI y) = true → y ∈ S) ∧ Kp w wr
def HaPost (r : List Int × List An) (w : World) (e : Ending) (w' : World) : Prop := ∃ v u, e = .returned (.tuple #[v, u]) ∧ RD w' eInt v r.1 ∧ RD w' eAns u r.2 ∧ Kp w w'
set_option maxRecDepth 100000 in
set_option maxHeartbeats 8000000 in
theorem halfAnswered_any (ops : List O3) (v : Value) (w : World) (hr : RD w eOp v ops) (hlen : ops.length ≤ 300) : Calls Try.prog 13 #[v] w (HaPost (hRunL ops) w) := by
  obtain ⟨A, c, rfl, hc, hm⟩ := hr.shape
  have HRD0 := hide hr
  have hmm := @run_makeMap Try.prog
  obtain ⟨W0, hW0⟩ : ∃ W0, W0 = (w.alloc (.map #[] 0)).alloc (.cells #[.map (some w.heap.size)] 60) := ⟨_, rfl⟩
  have HREL : Hid (HwR ops w w.heap.size (w.heap.size + 1) (.slice none 0 0) (.int .i64 0) W0) := hide ⟨0, 0, .map [], by omega, rfl, by rw [hW0]; exact (World.ownsMap_made w _ _ _).alloc _, by omega, HM.nil, by
    rw [hW0]
    have h := BC.new (w.alloc (.map #[] 0)) 60 [.map (some w.heap.size)]
    rwa [show (w.alloc (.map #[] 0)).heap.size = w.heap.size + 1 by simp] at h, OW.nil, by rw [hW0]; exact (Kp.refl w).alloc.alloc⟩
  have HW0 := hide hW0
  clear hr hW0
  go_enter Try.func13, Try.ntmps13
  go_wp2
  rw [← HW0.out]
  go_loopw [6, 16] (HwR ops w w.heap.size (w.heap.size + 1)) (fun _ i _ => ops.length - (intOf i).toNat)
  case atStart => exact HREL.out
  case round =>
    clear HREL HW0
    obtain ⟨k, n, D, hk, rfl, hom, hnk, hHM, htb, ho, hkp⟩ := hrel
    have hol := hRunL_len ops k hk
    obtain ⟨A6, c6, hv6, hc6, hm6⟩ := ho.rd.shape
    rw [hol] at hv6 hc6
    subst hv6
    have HO := hide ho
    have HKP := hide hkp
    have HOM := hide hom
    have HHM := hide hHM
    have HTB := hide htb
    have HNO : Hid ((Value.slice A6 k c6).ownBlock ≠ some w.heap.size) := hide (om_ow_ne hom ho)
    have HNT : Hid ((Value.slice A6 k c6).ownBlock ≠ some (w.heap.size + 1)) := hide (ho.bc_ne htb (by decide))
    by_cases hlt : k < ops.length
    · obtain ⟨b, o, rfl, _, x0, x1, x2⟩ := (HRD0.out.kp hkp).op hlt
      have hst := hRunL_take ops k hlt
      have hSt : HSt (hRunL (ops.take k)).1 := (hRunL_st _).1
      obtain ⟨⟨S, An0⟩, hS⟩ : ∃ S, S = hRunL (ops.take k) := ⟨_, rfl⟩
      rw [← hS] at HO HHM hst hol hSt
      simp only at HO HHM hol hSt
      obtain ⟨kd, hkd⟩ : ∃ y, y = ops[k].1 := ⟨_, rfl⟩
      obtain ⟨ky, hky⟩ : ∃ y, y = ops[k].2.1 := ⟨_, rfl⟩
      obtain ⟨vl, hvl⟩ : ∃ y, y = ops[k].2.2 := ⟨_, rfl⟩
      rw [← hkd] at x0
      rw [← hky] at x1
      rw [← hvl] at x2
      have HST : Hid (hRunL (ops.take (k + 1)) = ((hDo S (kd, ky, vl)).1, An0 ++ [(hDo S (kd, ky, vl)).2])) := hide (by rw [hst, hStep, hkd, hky, hvl])
      have HAL := hide hol
      have HSS := hide hSt
      clear hst hS hkd hky hvl hom hHM htb ho hkp hSt
      obtain ⟨W1, hW1⟩ : ∃ W1, W1 = (wr.alloc (.cells #[.int .i64 kd, .int .i64 ky, .int .i64 vl] 43)).alloc (.cells #[.int .i64 0, .int .i64 0, .int .i64 0, .bool false] 39) := ⟨_, rfl⟩
      have k1 : Kp wr W1 := by rw [hW1]; exact (Kp.refl wr).alloc.alloc
      have hz1 : W1.heap.size = wr.heap.size + 2 := by rw [hW1]; simp
      have hbo : BC W1 wr.heap.size 43 [.int .i64 kd, .int .i64 ky, .int .i64 vl] := by rw [hW1]; exact (BC.new wr 43 [.int .i64 kd, .int .i64 ky, .int .i64 vl]).kp (Kp.refl _).alloc
      have hba : BC W1 (wr.heap.size + 1) 39 [.int .i64 0, .int .i64 0, .int .i64 0, .bool false] := by
        rw [hW1]
        have h := BC.new (wr.alloc (.cells #[.int .i64 kd, .int .i64 ky, .int .i64 vl] 43)) 39 [.int .i64 0, .int .i64 0, .int .i64 0, .bool false]
        rwa [show (wr.alloc (.cells #[.int .i64 kd, .int .i64 ky, .int .i64 vl] 43)).heap.size = wr.heap.size + 1 by simp] at h
      have HW1 := hide hW1
      have HK1 := hide k1
      have HBA := hide hba
      have HBO := hide hbo
      have HZ1 := hide hz1
      have HCT : Hid (W1.cell? ⟨w.heap.size + 1, 0, none⟩ = some (.map (some w.heap.size))) := hide ((HTB.out.kp k1).cell 0)
      have HOM1 := hide (om_kp HOM.out k1)
      have o0 : W1.cell? ⟨wr.heap.size, 0, none⟩ = some (.int .i64 kd) := hbo.cell 0
      have o1 : W1.cell? ⟨wr.heap.size, 1, none⟩ = some (.int .i64 ky) := hbo.cell 1
      clear hW1 k1 hz1 hbo hba
      have HM1 := hide (fun x : An => (by simp [HAL.out]; omega : (An0.length + [x].length) * 32 ≤ 140737488355328))
      have HM2 := hide (fun x : An => (by simp [HAL.out, maxLen]; omega : An0.length + [x].length ≤ maxLen))
      have k1 := HK1.out
      by_cases hkd : 1 ≤ kd ∧ kd ≤ 5
      · have HBK : Hid (btw kd 1 5 = true) := hide ((btw_iff _ _ _).2 hkd)
        by_cases hky : 0 ≤ ky ∧ ky ≤ 65535
        · have HBY : Hid (btw ky 0 65535 = true) := hide ((btw_iff _ _ _).2 hky)
          have HPA : Hid (hDo S (kd, ky, vl) = if kd = 4 then (S, ansN (nxU S ky)) else if kd = 5 then (S, ansN (pvU S ky)) else (if kd = 1 then insU S ky else if kd = 3 then delU S ky else S, ⟨0, 0, 0, decide (ky ∈ S)⟩)) := hide (by
            unfold hDo
            simp only
            rw [if_neg (by omega), if_neg (by omega)])
          have HKY := hide hky
          have hkey : keyOf Try.prog 3 (.int .i64 ky) = some (.int .i64 ky) := keyOf_int_mk Try.underlying3 (wf_in2 (by omega))
          rcases (show kd = 1 ∨ kd = 2 ∨ kd = 3 ∨ kd = 4 ∨ kd = 5 by omega) with rfl | rfl | rfl | rfl | rfl
          · have HP := HPA.out
            rw [if_neg (by decide), if_neg (by decide), if_pos rfl] at HP
            rw [HP] at HST
            clear HP HPA hkd hky
            by_cases hin : ky ∈ S
            · have hd : decide (ky ∈ S) = true := by simp [hin]
              rw [hd] at HST
              have HC : Hid (∀ c : Int, D.atKey (kI ky) (.lit (kI 0)) = .lit (kI c) → c = 1) := hide (fun c h => by
                rw [HHM.out.val] at h
                simp only [hin, if_true, if_false] at h
                injection h with h; injection h with _ h; exact h.symm)
              have kX : Kp wr (W1.setCell ⟨wr.heap.size + 1, 3, none⟩ (.bool true)) := HK1.out.setR (Nat.le_succ _)
              have HOMX := hide (om_kp HOM.out kX)
              have HOX0 := hide (HO.out.kp kX)
              have HTX0 := hide (HTB.out.kp kX)
              have KX0 := hide (HKP.out.trans kX)
              have hct2 : (W1.setCell ⟨wr.heap.size + 1, 3, none⟩ (.bool true)).cell? ⟨w.heap.size + 1, 0, none⟩ = some (.map (some w.heap.size)) := HTX0.out.cell 0
              have HBX0 : Hid (BC (W1.setCell ⟨wr.heap.size + 1, 3, none⟩ (.bool true)) (wr.heap.size + 1) 39 [.int .i64 0, .int .i64 0, .int .i64 0, .bool true]) := hide (HBA.out.set (j := 3))
              have HBY0 : Hid (BC (W1.setCell ⟨wr.heap.size + 1, 3, none⟩ (.bool true)) wr.heap.size 43 [.int .i64 _, .int .i64 ky, .int .i64 vl]) := hide (HBO.out.far (by simp))
              have hct := HCT.out
              have r0 : _ = some (Value.int .i64 0) := (HBA.out).cell 0
              have r1 : _ = some (Value.int .i64 0) := (HBA.out).cell 1
              have r2 : _ = some (Value.int .i64 0) := (HBA.out).cell 2
              have r3 : _ = some (Value.bool false) := (HBA.out).cell 3
              have q0 := (HBA.out).frozen 0
              have q1 := (HBA.out).frozen 1
              have q2 := (HBA.out).frozen 2
              have q3 := (HBA.out).frozen 3
              clear hin hd kX
              go_wp2_with fail
              rw [← HW1.out]
              with_reducible refine (between_to _ _ _ true _ HBK.out).mono ?_
              rintro e w' ⟨rfl, rfl⟩
              go_wp2_with fail
              with_reducible refine (between_to _ _ _ true _ HBY.out).mono ?_
              rintro e w' ⟨rfl, rfl⟩
              go_wp2_with (first | (at_lookup; refine wpList_lookup_own_int _ rfl _ _ 60 rfl 3 3 .i64 int_law2 Try.underlying60 Try.underlying3 (int_zero2 _) w.heap.size n D rfl HOM1.out _ _ rfl hkey ?_; intro c hat hwc; obtain rfl : c = 1 := HC.out c hat) | (at_mapUpdate; refine wpList_mapUpdate_own _ rfl _ _ _ 60 rfl 3 3 int_law2 Try.underlying60 _ w.heap.size n D rfl HOMX.out (by unfold maxLen; omega) _ _ _ rfl rfl hkey _ [] (plainElem_int Try.underlying3 (wf_in2 (by decide))) ?_; intro w5 hown5 hg5; have HMX := hide hown5; have HOX := hide (OW.kept HOX0.out hg5 (.inr HNO.out)); have HTX := hide (bc_grown HTX0.out hg5 (by simp)); have KX : Hid (Kp w w5) := hide (Below.grown KX0.out hg5 KX0.out.size (fun j hj => by cases hj; exact Nat.le_refl _)); have hgt := HKP.out.size; have hgb := HTB.out.lt; have HB5 := hide (bc_grown HBX0.out hg5 (by simp; omega)); have HY5 := hide (bc_grown HBY0.out hg5 (by simp; omega)); have s0 : w5.cell? ⟨wr.heap.size + 1, 0, none⟩ = some (Value.int .i64 0) := HB5.out.cell 0; have s1 : w5.cell? ⟨wr.heap.size + 1, 1, none⟩ = some (Value.int .i64 0) := HB5.out.cell 1; have s2 : w5.cell? ⟨wr.heap.size + 1, 2, none⟩ = some (Value.int .i64 0) := HB5.out.cell 2; have s3 : w5.cell? ⟨wr.heap.size + 1, 3, none⟩ = some (Value.bool true) := HB5.out.cell 3; have y0 : w5.cell? ⟨wr.heap.size, 0, none⟩ = some _ := HY5.out.cell 0) | (at_builtin; (with_reducible refine list_app (B := w.heap.size) (l := An0) (m := [(⟨0, 0, 0, true⟩ : An)]) row_ans (.slice A6 k c6) ?_ (.tmp 67) (.tmp 69) ?_ ?_ ?_ ?_ (HM1.out _) (HM2.out _) ?_ ?_); (with_reducible rfl); (with_reducible rfl); rfl; (exact HOX.out.alloc _); (show RD _ _ (.slice (some ⟨_, 0, none⟩) 1 1) _; (focus ((repeat (first | (with_reducible assumption) | exact RD.new1 _ rfl | (refine RD.new1e _ ?_ rfl; simp; done) | (with_reducible apply RD.alloc) | (with_reducible apply RD.drew) | (with_reducible apply RD.drewN) | ((with_reducible apply RD.belowR); (with_reducible assumption)))); done))); (have := KX.out.size; simp at this ⊢; omega); intro v3 w3 ho3 hg3 hat3))
              go_roundw
              case rel => exact ⟨k + 1, (n + 1), (D.put (kI ky) (.lit (kI 1))), by omega, by go_num, World.ownsMap.kept (World.ownsMap.alloc HMX.out _) hg3 (fun e => HNO.out e.symm), by omega, by rw [HST.out]; exact (HHM.out.put ky), bc_grown (HTX.out.kp (Kp.refl _).alloc) hg3 (fun e => HNT.out e.symm), by rw [HST.out]; exact ho3, Kp.app hg3 KX.out.alloc HO.out.hi⟩
              case measure => simp [intOf] <;> omega
            · have hd : decide (ky ∈ S) = false := by simp [hin]
              rw [hd] at HST
              have HC : Hid (∀ c : Int, D.atKey (kI ky) (.lit (kI 0)) = .lit (kI c) → c = 0) := hide (fun c h => by
                rw [HHM.out.val] at h
                simp only [hin, if_true, if_false] at h
                injection h with h; injection h with _ h; exact h.symm)
              have kX : Kp wr (W1.setCell ⟨wr.heap.size + 1, 3, none⟩ (.bool false)) := HK1.out.setR (Nat.le_succ _)
              have HOMX := hide (om_kp HOM.out kX)
              have HOX0 := hide (HO.out.kp kX)
              have HTX0 := hide (HTB.out.kp kX)
              have KX0 := hide (HKP.out.trans kX)
              have hct2 : (W1.setCell ⟨wr.heap.size + 1, 3, none⟩ (.bool false)).cell? ⟨w.heap.size + 1, 0, none⟩ = some (.map (some w.heap.size)) := HTX0.out.cell 0
              have HBX0 : Hid (BC (W1.setCell ⟨wr.heap.size + 1, 3, none⟩ (.bool false)) (wr.heap.size + 1) 39 [.int .i64 0, .int .i64 0, .int .i64 0, .bool false]) := hide (HBA.out.set (j := 3))
              have HBY0 : Hid (BC (W1.setCell ⟨wr.heap.size + 1, 3, none⟩ (.bool false)) wr.heap.size 43 [.int .i64 _, .int .i64 ky, .int .i64 vl]) := hide (HBO.out.far (by simp))
              have hct := HCT.out
              have r0 : _ = some (Value.int .i64 0) := (HBA.out).cell 0
              have r1 : _ = some (Value.int .i64 0) := (HBA.out).cell 1
              have r2 : _ = some (Value.int .i64 0) := (HBA.out).cell 2
              have r3 : _ = some (Value.bool false) := (HBA.out).cell 3
              have q0 := (HBA.out).frozen 0
              have q1 := (HBA.out).frozen 1
              have q2 := (HBA.out).frozen 2
              have q3 := (HBA.out).frozen 3
              clear hin hd kX
              go_wp2_with fail
              rw [← HW1.out]
              with_reducible refine (between_to _ _ _ true _ HBK.out).mono ?_
              rintro e w' ⟨rfl, rfl⟩
              go_wp2_with fail
              with_reducible refine (between_to _ _ _ true _ HBY.out).mono ?_
              rintro e w' ⟨rfl, rfl⟩
              go_wp2_with (first | (at_lookup; refine wpList_lookup_own_int _ rfl _ _ 60 rfl 3 3 .i64 int_law2 Try.underlying60 Try.underlying3 (int_zero2 _) w.heap.size n D rfl HOM1.out _ _ rfl hkey ?_; intro c hat hwc; obtain rfl : c = 0 := HC.out c hat) | (at_mapUpdate; refine wpList_mapUpdate_own _ rfl _ _ _ 60 rfl 3 3 int_law2 Try.underlying60 _ w.heap.size n D rfl HOMX.out (by unfold maxLen; omega) _ _ _ rfl rfl hkey _ [] (plainElem_int Try.underlying3 (wf_in2 (by decide))) ?_; intro w5 hown5 hg5; have HMX := hide hown5; have HOX := hide (OW.kept HOX0.out hg5 (.inr HNO.out)); have HTX := hide (bc_grown HTX0.out hg5 (by simp)); have KX : Hid (Kp w w5) := hide (Below.grown KX0.out hg5 KX0.out.size (fun j hj => by cases hj; exact Nat.le_refl _)); have hgt := HKP.out.size; have hgb := HTB.out.lt; have HB5 := hide (bc_grown HBX0.out hg5 (by simp; omega)); have HY5 := hide (bc_grown HBY0.out hg5 (by simp; omega)); have s0 : w5.cell? ⟨wr.heap.size + 1, 0, none⟩ = some (Value.int .i64 0) := HB5.out.cell 0; have s1 : w5.cell? ⟨wr.heap.size + 1, 1, none⟩ = some (Value.int .i64 0) := HB5.out.cell 1; have s2 : w5.cell? ⟨wr.heap.size + 1, 2, none⟩ = some (Value.int .i64 0) := HB5.out.cell 2; have s3 : w5.cell? ⟨wr.heap.size + 1, 3, none⟩ = some (Value.bool false) := HB5.out.cell 3; have y0 : w5.cell? ⟨wr.heap.size, 0, none⟩ = some _ := HY5.out.cell 0) | (at_builtin; (with_reducible refine list_app (B := w.heap.size) (l := An0) (m := [(⟨0, 0, 0, false⟩ : An)]) row_ans (.slice A6 k c6) ?_ (.tmp 67) (.tmp 69) ?_ ?_ ?_ ?_ (HM1.out _) (HM2.out _) ?_ ?_); (with_reducible rfl); (with_reducible rfl); rfl; (exact HOX.out.alloc _); (show RD _ _ (.slice (some ⟨_, 0, none⟩) 1 1) _; (focus ((repeat (first | (with_reducible assumption) | exact RD.new1 _ rfl | (refine RD.new1e _ ?_ rfl; simp; done) | (with_reducible apply RD.alloc) | (with_reducible apply RD.drew) | (with_reducible apply RD.drewN) | ((with_reducible apply RD.belowR); (with_reducible assumption)))); done))); (have := KX.out.size; simp at this ⊢; omega); intro v3 w3 ho3 hg3 hat3))
              go_roundw
              case rel => exact ⟨k + 1, (n + 1), (D.put (kI ky) (.lit (kI 1))), by omega, by go_num, World.ownsMap.kept (World.ownsMap.alloc HMX.out _) hg3 (fun e => HNO.out e.symm), by omega, by rw [HST.out]; exact (HHM.out.put ky), bc_grown (HTX.out.kp (Kp.refl _).alloc) hg3 (fun e => HNT.out e.symm), by rw [HST.out]; exact ho3, Kp.app hg3 KX.out.alloc HO.out.hi⟩
              case measure => simp [intOf] <;> omega
          · have HP := HPA.out
            rw [if_neg (by decide), if_neg (by decide), if_neg (by decide), if_neg (by decide)] at HP
            rw [HP] at HST
            clear HP HPA hkd hky
            by_cases hin : ky ∈ S
            · have hd : decide (ky ∈ S) = true := by simp [hin]
              rw [hd] at HST
              have HC : Hid (∀ c : Int, D.atKey (kI ky) (.lit (kI 0)) = .lit (kI c) → c = 1) := hide (fun c h => by
                rw [HHM.out.val] at h
                simp only [hin, if_true, if_false] at h
                injection h with h; injection h with _ h; exact h.symm)
              have kX : Kp wr (W1.setCell ⟨wr.heap.size + 1, 3, none⟩ (.bool true)) := HK1.out.setR (Nat.le_succ _)
              have HOMX := hide (om_kp HOM.out kX)
              have HOX0 := hide (HO.out.kp kX)
              have HTX0 := hide (HTB.out.kp kX)
              have KX0 := hide (HKP.out.trans kX)
              have hct2 : (W1.setCell ⟨wr.heap.size + 1, 3, none⟩ (.bool true)).cell? ⟨w.heap.size + 1, 0, none⟩ = some (.map (some w.heap.size)) := HTX0.out.cell 0
              have HBX0 : Hid (BC (W1.setCell ⟨wr.heap.size + 1, 3, none⟩ (.bool true)) (wr.heap.size + 1) 39 [.int .i64 0, .int .i64 0, .int .i64 0, .bool true]) := hide (HBA.out.set (j := 3))
              have HBY0 : Hid (BC (W1.setCell ⟨wr.heap.size + 1, 3, none⟩ (.bool true)) wr.heap.size 43 [.int .i64 _, .int .i64 ky, .int .i64 vl]) := hide (HBO.out.far (by simp))
              have hct := HCT.out
              have r0 : _ = some (Value.int .i64 0) := (HBA.out).cell 0
              have r1 : _ = some (Value.int .i64 0) := (HBA.out).cell 1
              have r2 : _ = some (Value.int .i64 0) := (HBA.out).cell 2
              have r3 : _ = some (Value.bool false) := (HBA.out).cell 3
              have q0 := (HBA.out).frozen 0
              have q1 := (HBA.out).frozen 1
              have q2 := (HBA.out).frozen 2
              have q3 := (HBA.out).frozen 3
              clear hin hd kX
              go_wp2_with fail
              rw [← HW1.out]
              with_reducible refine (between_to _ _ _ true _ HBK.out).mono ?_
              rintro e w' ⟨rfl, rfl⟩
              go_wp2_with fail
              with_reducible refine (between_to _ _ _ true _ HBY.out).mono ?_
              rintro e w' ⟨rfl, rfl⟩
              have HOX := HOX0
              have HTX := HTX0
              have KX := KX0
              go_wp2_with (first | (at_lookup; refine wpList_lookup_own_int _ rfl _ _ 60 rfl 3 3 .i64 int_law2 Try.underlying60 Try.underlying3 (int_zero2 _) w.heap.size n D rfl HOM1.out _ _ rfl hkey ?_; intro c hat hwc; obtain rfl : c = 1 := HC.out c hat) | (at_builtin; (with_reducible refine list_app (B := w.heap.size) (l := An0) (m := [(⟨0, 0, 0, true⟩ : An)]) row_ans (.slice A6 k c6) ?_ (.tmp 67) (.tmp 69) ?_ ?_ ?_ ?_ (HM1.out _) (HM2.out _) ?_ ?_); (with_reducible rfl); (with_reducible rfl); rfl; (exact HOX.out.alloc _); (show RD _ _ (.slice (some ⟨_, 0, none⟩) 1 1) _; (focus ((repeat (first | (with_reducible assumption) | exact RD.new1 _ rfl | (refine RD.new1e _ ?_ rfl; simp; done) | (with_reducible apply RD.alloc) | (with_reducible apply RD.drew) | (with_reducible apply RD.drewN) | ((with_reducible apply RD.belowR); (with_reducible assumption)))); done))); (have := KX.out.size; simp at this ⊢; omega); intro v3 w3 ho3 hg3 hat3))
              go_roundw
              case rel => exact ⟨k + 1, n, D, by omega, by go_num, World.ownsMap.kept (World.ownsMap.alloc HOMX.out _) hg3 (fun e => HNO.out e.symm), by omega, by rw [HST.out]; exact HHM.out, bc_grown (HTX.out.kp (Kp.refl _).alloc) hg3 (fun e => HNT.out e.symm), by rw [HST.out]; exact ho3, Kp.app hg3 KX.out.alloc HO.out.hi⟩
              case measure => simp [intOf] <;> omega
            · have hd : decide (ky ∈ S) = false := by simp [hin]
              rw [hd] at HST
              have HC : Hid (∀ c : Int, D.atKey (kI ky) (.lit (kI 0)) = .lit (kI c) → c = 0) := hide (fun c h => by
                rw [HHM.out.val] at h
                simp only [hin, if_true, if_false] at h
                injection h with h; injection h with _ h; exact h.symm)
              have kX : Kp wr (W1.setCell ⟨wr.heap.size + 1, 3, none⟩ (.bool false)) := HK1.out.setR (Nat.le_succ _)
              have HOMX := hide (om_kp HOM.out kX)
              have HOX0 := hide (HO.out.kp kX)
              have HTX0 := hide (HTB.out.kp kX)
              have KX0 := hide (HKP.out.trans kX)
              have hct2 : (W1.setCell ⟨wr.heap.size + 1, 3, none⟩ (.bool false)).cell? ⟨w.heap.size + 1, 0, none⟩ = some (.map (some w.heap.size)) := HTX0.out.cell 0
              have HBX0 : Hid (BC (W1.setCell ⟨wr.heap.size + 1, 3, none⟩ (.bool false)) (wr.heap.size + 1) 39 [.int .i64 0, .int .i64 0, .int .i64 0, .bool false]) := hide (HBA.out.set (j := 3))
              have HBY0 : Hid (BC (W1.setCell ⟨wr.heap.size + 1, 3, none⟩ (.bool false)) wr.heap.size 43 [.int .i64 _, .int .i64 ky, .int .i64 vl]) := hide (HBO.out.far (by simp))
              have hct := HCT.out
              have r0 : _ = some (Value.int .i64 0) := (HBA.out).cell 0
              have r1 : _ = some (Value.int .i64 0) := (HBA.out).cell 1
              have r2 : _ = some (Value.int .i64 0) := (HBA.out).cell 2
              have r3 : _ = some (Value.bool false) := (HBA.out).cell 3
              have q0 := (HBA.out).frozen 0
              have q1 := (HBA.out).frozen 1
              have q2 := (HBA.out).frozen 2
              have q3 := (HBA.out).frozen 3
              clear hin hd kX
              go_wp2_with fail
              rw [← HW1.out]
              with_reducible refine (between_to _ _ _ true _ HBK.out).mono ?_
              rintro e w' ⟨rfl, rfl⟩
              go_wp2_with fail
              with_reducible refine (between_to _ _ _ true _ HBY.out).mono ?_
              rintro e w' ⟨rfl, rfl⟩
              have HOX := HOX0
              have HTX := HTX0
              have KX := KX0
              go_wp2_with (first | (at_lookup; refine wpList_lookup_own_int _ rfl _ _ 60 rfl 3 3 .i64 int_law2 Try.underlying60 Try.underlying3 (int_zero2 _) w.heap.size n D rfl HOM1.out _ _ rfl hkey ?_; intro c hat hwc; obtain rfl : c = 0 := HC.out c hat) | (at_builtin; (with_reducible refine list_app (B := w.heap.size) (l := An0) (m := [(⟨0, 0, 0, false⟩ : An)]) row_ans (.slice A6 k c6) ?_ (.tmp 67) (.tmp 69) ?_ ?_ ?_ ?_ (HM1.out _) (HM2.out _) ?_ ?_); (with_reducible rfl); (with_reducible rfl); rfl; (exact HOX.out.alloc _); (show RD _ _ (.slice (some ⟨_, 0, none⟩) 1 1) _; (focus ((repeat (first | (with_reducible assumption) | exact RD.new1 _ rfl | (refine RD.new1e _ ?_ rfl; simp; done) | (with_reducible apply RD.alloc) | (with_reducible apply RD.drew) | (with_reducible apply RD.drewN) | ((with_reducible apply RD.belowR); (with_reducible assumption)))); done))); (have := KX.out.size; simp at this ⊢; omega); intro v3 w3 ho3 hg3 hat3))
              go_roundw
              case rel => exact ⟨k + 1, n, D, by omega, by go_num, World.ownsMap.kept (World.ownsMap.alloc HOMX.out _) hg3 (fun e => HNO.out e.symm), by omega, by rw [HST.out]; exact HHM.out, bc_grown (HTX.out.kp (Kp.refl _).alloc) hg3 (fun e => HNT.out e.symm), by rw [HST.out]; exact ho3, Kp.app hg3 KX.out.alloc HO.out.hi⟩
              case measure => simp [intOf] <;> omega
          · have HP := HPA.out
            rw [if_neg (by decide), if_neg (by decide), if_neg (by decide), if_pos rfl] at HP
            rw [HP] at HST
            clear HP HPA hkd hky
            by_cases hin : ky ∈ S
            · have hd : decide (ky ∈ S) = true := by simp [hin]
              rw [hd] at HST
              have HC : Hid (∀ c : Int, D.atKey (kI ky) (.lit (kI 0)) = .lit (kI c) → c = 1) := hide (fun c h => by
                rw [HHM.out.val] at h
                simp only [hin, if_true, if_false] at h
                injection h with h; injection h with _ h; exact h.symm)
              have kX : Kp wr (W1.setCell ⟨wr.heap.size + 1, 3, none⟩ (.bool true)) := HK1.out.setR (Nat.le_succ _)
              have HOMX := hide (om_kp HOM.out kX)
              have HOX0 := hide (HO.out.kp kX)
              have HTX0 := hide (HTB.out.kp kX)
              have KX0 := hide (HKP.out.trans kX)
              have hct2 : (W1.setCell ⟨wr.heap.size + 1, 3, none⟩ (.bool true)).cell? ⟨w.heap.size + 1, 0, none⟩ = some (.map (some w.heap.size)) := HTX0.out.cell 0
              have HBX0 : Hid (BC (W1.setCell ⟨wr.heap.size + 1, 3, none⟩ (.bool true)) (wr.heap.size + 1) 39 [.int .i64 0, .int .i64 0, .int .i64 0, .bool true]) := hide (HBA.out.set (j := 3))
              have HBY0 : Hid (BC (W1.setCell ⟨wr.heap.size + 1, 3, none⟩ (.bool true)) wr.heap.size 43 [.int .i64 _, .int .i64 ky, .int .i64 vl]) := hide (HBO.out.far (by simp))
              have hct := HCT.out
              have r0 : _ = some (Value.int .i64 0) := (HBA.out).cell 0
              have r1 : _ = some (Value.int .i64 0) := (HBA.out).cell 1
              have r2 : _ = some (Value.int .i64 0) := (HBA.out).cell 2
              have r3 : _ = some (Value.bool false) := (HBA.out).cell 3
              have q0 := (HBA.out).frozen 0
              have q1 := (HBA.out).frozen 1
              have q2 := (HBA.out).frozen 2
              have q3 := (HBA.out).frozen 3
              clear hin hd kX
              go_wp2_with fail
              rw [← HW1.out]
              with_reducible refine (between_to _ _ _ true _ HBK.out).mono ?_
              rintro e w' ⟨rfl, rfl⟩
              go_wp2_with fail
              with_reducible refine (between_to _ _ _ true _ HBY.out).mono ?_
              rintro e w' ⟨rfl, rfl⟩
              go_wp2_with (first | (at_lookup; refine wpList_lookup_own_int _ rfl _ _ 60 rfl 3 3 .i64 int_law2 Try.underlying60 Try.underlying3 (int_zero2 _) w.heap.size n D rfl HOM1.out _ _ rfl hkey ?_; intro c hat hwc; obtain rfl : c = 1 := HC.out c hat) | (at_delete; refine wpList_delete_own _ rfl _ _ 60 3 rfl 3 int_law2 Try.underlying60 _ w.heap.size n D rfl HOMX.out _ _ rfl hkey ?_; intro w5 hown5 htu5; have hg5 := htu5.grown; have HMX := hide hown5; have HOX := hide (OW.kept HOX0.out hg5 (.inr HNO.out)); have HTX := hide (bc_grown HTX0.out hg5 (by simp)); have KX : Hid (Kp w w5) := hide (Below.grown KX0.out hg5 KX0.out.size (fun j hj => by cases hj; exact Nat.le_refl _)); have hgt := HKP.out.size; have hgb := HTB.out.lt; have HB5 := hide (bc_grown HBX0.out hg5 (by simp; omega)); have HY5 := hide (bc_grown HBY0.out hg5 (by simp; omega)); have s0 : w5.cell? ⟨wr.heap.size + 1, 0, none⟩ = some (Value.int .i64 0) := HB5.out.cell 0; have s1 : w5.cell? ⟨wr.heap.size + 1, 1, none⟩ = some (Value.int .i64 0) := HB5.out.cell 1; have s2 : w5.cell? ⟨wr.heap.size + 1, 2, none⟩ = some (Value.int .i64 0) := HB5.out.cell 2; have s3 : w5.cell? ⟨wr.heap.size + 1, 3, none⟩ = some (Value.bool true) := HB5.out.cell 3; have y0 : w5.cell? ⟨wr.heap.size, 0, none⟩ = some _ := HY5.out.cell 0) | (at_builtin; (with_reducible refine list_app (B := w.heap.size) (l := An0) (m := [(⟨0, 0, 0, true⟩ : An)]) row_ans (.slice A6 k c6) ?_ (.tmp 67) (.tmp 69) ?_ ?_ ?_ ?_ (HM1.out _) (HM2.out _) ?_ ?_); (with_reducible rfl); (with_reducible rfl); rfl; (exact HOX.out.alloc _); (show RD _ _ (.slice (some ⟨_, 0, none⟩) 1 1) _; (focus ((repeat (first | (with_reducible assumption) | exact RD.new1 _ rfl | (refine RD.new1e _ ?_ rfl; simp; done) | (with_reducible apply RD.alloc) | (with_reducible apply RD.drew) | (with_reducible apply RD.drewN) | ((with_reducible apply RD.belowR); (with_reducible assumption)))); done))); (have := KX.out.size; simp at this ⊢; omega); intro v3 w3 ho3 hg3 hat3))
              go_roundw
              case rel => exact ⟨k + 1, n, (D.del (kI ky)), by omega, by go_num, World.ownsMap.kept (World.ownsMap.alloc HMX.out _) hg3 (fun e => HNO.out e.symm), by omega, by rw [HST.out]; exact (HHM.out.del ky), bc_grown (HTX.out.kp (Kp.refl _).alloc) hg3 (fun e => HNT.out e.symm), by rw [HST.out]; exact ho3, Kp.app hg3 KX.out.alloc HO.out.hi⟩
              case measure => simp [intOf] <;> omega
            · have hd : decide (ky ∈ S) = false := by simp [hin]
              rw [hd] at HST
              have HC : Hid (∀ c : Int, D.atKey (kI ky) (.lit (kI 0)) = .lit (kI c) → c = 0) := hide (fun c h => by
                rw [HHM.out.val] at h
                simp only [hin, if_true, if_false] at h
                injection h with h; injection h with _ h; exact h.symm)
              have kX : Kp wr (W1.setCell ⟨wr.heap.size + 1, 3, none⟩ (.bool false)) := HK1.out.setR (Nat.le_succ _)
              have HOMX := hide (om_kp HOM.out kX)
              have HOX0 := hide (HO.out.kp kX)
              have HTX0 := hide (HTB.out.kp kX)
              have KX0 := hide (HKP.out.trans kX)
              have hct2 : (W1.setCell ⟨wr.heap.size + 1, 3, none⟩ (.bool false)).cell? ⟨w.heap.size + 1, 0, none⟩ = some (.map (some w.heap.size)) := HTX0.out.cell 0
              have HBX0 : Hid (BC (W1.setCell ⟨wr.heap.size + 1, 3, none⟩ (.bool false)) (wr.heap.size + 1) 39 [.int .i64 0, .int .i64 0, .int .i64 0, .bool false]) := hide (HBA.out.set (j := 3))
              have HBY0 : Hid (BC (W1.setCell ⟨wr.heap.size + 1, 3, none⟩ (.bool false)) wr.heap.size 43 [.int .i64 _, .int .i64 ky, .int .i64 vl]) := hide (HBO.out.far (by simp))
              have hct := HCT.out
              have r0 : _ = some (Value.int .i64 0) := (HBA.out).cell 0
              have r1 : _ = some (Value.int .i64 0) := (HBA.out).cell 1
              have r2 : _ = some (Value.int .i64 0) := (HBA.out).cell 2
              have r3 : _ = some (Value.bool false) := (HBA.out).cell 3
              have q0 := (HBA.out).frozen 0
              have q1 := (HBA.out).frozen 1
              have q2 := (HBA.out).frozen 2
              have q3 := (HBA.out).frozen 3
              clear hin hd kX
              go_wp2_with fail
              rw [← HW1.out]
              with_reducible refine (between_to _ _ _ true _ HBK.out).mono ?_
              rintro e w' ⟨rfl, rfl⟩
              go_wp2_with fail
              with_reducible refine (between_to _ _ _ true _ HBY.out).mono ?_
              rintro e w' ⟨rfl, rfl⟩
              go_wp2_with (first | (at_lookup; refine wpList_lookup_own_int _ rfl _ _ 60 rfl 3 3 .i64 int_law2 Try.underlying60 Try.underlying3 (int_zero2 _) w.heap.size n D rfl HOM1.out _ _ rfl hkey ?_; intro c hat hwc; obtain rfl : c = 0 := HC.out c hat) | (at_delete; refine wpList_delete_own _ rfl _ _ 60 3 rfl 3 int_law2 Try.underlying60 _ w.heap.size n D rfl HOMX.out _ _ rfl hkey ?_; intro w5 hown5 htu5; have hg5 := htu5.grown; have HMX := hide hown5; have HOX := hide (OW.kept HOX0.out hg5 (.inr HNO.out)); have HTX := hide (bc_grown HTX0.out hg5 (by simp)); have KX : Hid (Kp w w5) := hide (Below.grown KX0.out hg5 KX0.out.size (fun j hj => by cases hj; exact Nat.le_refl _)); have hgt := HKP.out.size; have hgb := HTB.out.lt; have HB5 := hide (bc_grown HBX0.out hg5 (by simp; omega)); have HY5 := hide (bc_grown HBY0.out hg5 (by simp; omega)); have s0 : w5.cell? ⟨wr.heap.size + 1, 0, none⟩ = some (Value.int .i64 0) := HB5.out.cell 0; have s1 : w5.cell? ⟨wr.heap.size + 1, 1, none⟩ = some (Value.int .i64 0) := HB5.out.cell 1; have s2 : w5.cell? ⟨wr.heap.size + 1, 2, none⟩ = some (Value.int .i64 0) := HB5.out.cell 2; have s3 : w5.cell? ⟨wr.heap.size + 1, 3, none⟩ = some (Value.bool false) := HB5.out.cell 3; have y0 : w5.cell? ⟨wr.heap.size, 0, none⟩ = some _ := HY5.out.cell 0) | (at_builtin; (with_reducible refine list_app (B := w.heap.size) (l := An0) (m := [(⟨0, 0, 0, false⟩ : An)]) row_ans (.slice A6 k c6) ?_ (.tmp 67) (.tmp 69) ?_ ?_ ?_ ?_ (HM1.out _) (HM2.out _) ?_ ?_); (with_reducible rfl); (with_reducible rfl); rfl; (exact HOX.out.alloc _); (show RD _ _ (.slice (some ⟨_, 0, none⟩) 1 1) _; (focus ((repeat (first | (with_reducible assumption) | exact RD.new1 _ rfl | (refine RD.new1e _ ?_ rfl; simp; done) | (with_reducible apply RD.alloc) | (with_reducible apply RD.drew) | (with_reducible apply RD.drewN) | ((with_reducible apply RD.belowR); (with_reducible assumption)))); done))); (have := KX.out.size; simp at this ⊢; omega); intro v3 w3 ho3 hg3 hat3))
              go_roundw
              case rel => exact ⟨k + 1, n, (D.del (kI ky)), by omega, by go_num, World.ownsMap.kept (World.ownsMap.alloc HMX.out _) hg3 (fun e => HNO.out e.symm), by omega, by rw [HST.out]; exact (HHM.out.del ky), bc_grown (HTX.out.kp (Kp.refl _).alloc) hg3 (fun e => HNT.out e.symm), by rw [HST.out]; exact ho3, Kp.app hg3 KX.out.alloc HO.out.hi⟩
              case measure => simp [intOf] <;> omega
          · have HP := HPA.out
            rw [if_pos rfl] at HP
            rw [HP] at HST
            clear hkd hky HP HPA hkey
            go_wp2_with fail
            rw [← HW1.out]
            with_reducible refine (between_to _ _ _ true _ HBK.out).mono ?_
            rintro e w' ⟨rfl, rfl⟩
            go_wp2_with fail
            with_reducible refine (between_to _ _ _ true _ HBY.out).mono ?_
            rintro e w' ⟨rfl, rfl⟩
            go_wp2_with fail
            with_reducible refine (near_any S ky 1 (w.heap.size + 1) w.heap.size n D W1 HSS.out HKY.out (by decide) HHM.out HOM1.out HCT.out).mono ?_
            rintro e w5 ⟨rfl, hb5⟩
            have k5 : Kp wr w5 := HK1.out.trans (Kp.of hb5)
            have HQ : Hid (nearO S ky 1 = nxU S ky) := hide (by unfold nearO; first | rw [if_pos rfl] | rw [if_neg (by decide)])
            rw [HQ.out]
            have hba5 := HBA.out.kp (Kp.of hb5)
            have HBA5 := hide hba5
            have HK5 := hide k5
            obtain ⟨an, han⟩ : ∃ an, an = ansN (nxU S ky) := ⟨_, rfl⟩
            rw [← han] at HST ⊢
            clear hb5 hba5 k5 han HQ
            obtain ⟨ea, eb, ec, ed⟩ := an
            simp only [An.v]
            have r0 : _ = some (Value.int .i64 0) := (HBA5.out).cell 0
            have r1 : _ = some (Value.int .i64 0) := (HBA5.out).cell 1
            have r2 : _ = some (Value.int .i64 0) := (HBA5.out).cell 2
            have r3 : _ = some (Value.bool false) := (HBA5.out).cell 3
            have q0 := (HBA5.out).frozen 0
            have q1 := (HBA5.out).frozen 1
            have q2 := (HBA5.out).frozen 2
            have q3 := (HBA5.out).frozen 3
            have kX : Kp wr ((((w5.setCell ⟨wr.heap.size + 1, 0, none⟩ (.int .i64 ea)).setCell ⟨wr.heap.size + 1, 1, none⟩ (.int .i64 eb)).setCell ⟨wr.heap.size + 1, 2, none⟩ (.int .i64 ec)).setCell ⟨wr.heap.size + 1, 3, none⟩ (.bool ed)) := (((HK5.out.setR (Nat.le_succ _)).setR (Nat.le_succ _)).setR (Nat.le_succ _)).setR (Nat.le_succ _)
            have HOX := hide (HO.out.kp kX)
            have HTX := hide (HTB.out.kp kX)
            have HMX := hide (om_kp HOM.out kX)
            have KX := hide (HKP.out.trans kX)
            clear kX
            go_wp2_with (first | fail | (at_builtin; (with_reducible refine list_app (B := w.heap.size) (l := An0) (m := [(⟨ea, eb, ec, ed⟩ : An)]) row_ans (.slice A6 k c6) ?_ (.tmp 67) (.tmp 69) ?_ ?_ ?_ ?_ (HM1.out _) (HM2.out _) ?_ ?_); (with_reducible rfl); (with_reducible rfl); rfl; (exact HOX.out.alloc _); (show RD _ _ (.slice (some ⟨_, 0, none⟩) 1 1) _; (focus ((repeat (first | (with_reducible assumption) | exact RD.new1 _ rfl | (refine RD.new1e _ ?_ rfl; simp; done) | (with_reducible apply RD.alloc) | (with_reducible apply RD.drew) | (with_reducible apply RD.drewN) | ((with_reducible apply RD.belowR); (with_reducible assumption)))); done))); (have := KX.out.size; simp at this ⊢; omega); intro v3 w3 ho3 hg3 hat3))
            go_roundw
            case rel => exact ⟨k + 1, n, D, by omega, by go_num, World.ownsMap.kept (World.ownsMap.alloc HMX.out _) hg3 (fun e => HNO.out e.symm), by omega, by rw [HST.out]; exact HHM.out, bc_grown (HTX.out.kp (Kp.refl _).alloc) hg3 (fun e => HNT.out e.symm), by rw [HST.out]; exact ho3, Kp.app hg3 KX.out.alloc HO.out.hi⟩
            case measure => simp [intOf] <;> omega
          · have HP := HPA.out
            rw [if_neg (by decide), if_pos rfl] at HP
            rw [HP] at HST
            clear hkd hky HP HPA hkey
            go_wp2_with fail
            rw [← HW1.out]
            with_reducible refine (between_to _ _ _ true _ HBK.out).mono ?_
            rintro e w' ⟨rfl, rfl⟩
            go_wp2_with fail
            with_reducible refine (between_to _ _ _ true _ HBY.out).mono ?_
            rintro e w' ⟨rfl, rfl⟩
            go_wp2_with fail
            with_reducible refine (near_any S ky (-1) (w.heap.size + 1) w.heap.size n D W1 HSS.out HKY.out (by decide) HHM.out HOM1.out HCT.out).mono ?_
            rintro e w5 ⟨rfl, hb5⟩
            have k5 : Kp wr w5 := HK1.out.trans (Kp.of hb5)
            have HQ : Hid (nearO S ky (-1) = pvU S ky) := hide (by unfold nearO; first | rw [if_pos rfl] | rw [if_neg (by decide)])
            rw [HQ.out]
            have hba5 := HBA.out.kp (Kp.of hb5)
            have HBA5 := hide hba5
            have HK5 := hide k5
            obtain ⟨an, han⟩ : ∃ an, an = ansN (pvU S ky) := ⟨_, rfl⟩
            rw [← han] at HST ⊢
            clear hb5 hba5 k5 han HQ
            obtain ⟨ea, eb, ec, ed⟩ := an
            simp only [An.v]
            have r0 : _ = some (Value.int .i64 0) := (HBA5.out).cell 0
            have r1 : _ = some (Value.int .i64 0) := (HBA5.out).cell 1
            have r2 : _ = some (Value.int .i64 0) := (HBA5.out).cell 2
            have r3 : _ = some (Value.bool false) := (HBA5.out).cell 3
            have q0 := (HBA5.out).frozen 0
            have q1 := (HBA5.out).frozen 1
            have q2 := (HBA5.out).frozen 2
            have q3 := (HBA5.out).frozen 3
            have kX : Kp wr ((((w5.setCell ⟨wr.heap.size + 1, 0, none⟩ (.int .i64 ea)).setCell ⟨wr.heap.size + 1, 1, none⟩ (.int .i64 eb)).setCell ⟨wr.heap.size + 1, 2, none⟩ (.int .i64 ec)).setCell ⟨wr.heap.size + 1, 3, none⟩ (.bool ed)) := (((HK5.out.setR (Nat.le_succ _)).setR (Nat.le_succ _)).setR (Nat.le_succ _)).setR (Nat.le_succ _)
            have HOX := hide (HO.out.kp kX)
            have HTX := hide (HTB.out.kp kX)
            have HMX := hide (om_kp HOM.out kX)
            have KX := hide (HKP.out.trans kX)
            clear kX
            go_wp2_with (first | fail | (at_builtin; (with_reducible refine list_app (B := w.heap.size) (l := An0) (m := [(⟨ea, eb, ec, ed⟩ : An)]) row_ans (.slice A6 k c6) ?_ (.tmp 67) (.tmp 69) ?_ ?_ ?_ ?_ (HM1.out _) (HM2.out _) ?_ ?_); (with_reducible rfl); (with_reducible rfl); rfl; (exact HOX.out.alloc _); (show RD _ _ (.slice (some ⟨_, 0, none⟩) 1 1) _; (focus ((repeat (first | (with_reducible assumption) | exact RD.new1 _ rfl | (refine RD.new1e _ ?_ rfl; simp; done) | (with_reducible apply RD.alloc) | (with_reducible apply RD.drew) | (with_reducible apply RD.drewN) | ((with_reducible apply RD.belowR); (with_reducible assumption)))); done))); (have := KX.out.size; simp at this ⊢; omega); intro v3 w3 ho3 hg3 hat3))
            go_roundw
            case rel => exact ⟨k + 1, n, D, by omega, by go_num, World.ownsMap.kept (World.ownsMap.alloc HMX.out _) hg3 (fun e => HNO.out e.symm), by omega, by rw [HST.out]; exact HHM.out, bc_grown (HTX.out.kp (Kp.refl _).alloc) hg3 (fun e => HNT.out e.symm), by rw [HST.out]; exact ho3, Kp.app hg3 KX.out.alloc HO.out.hi⟩
            case measure => simp [intOf] <;> omega
        · have HBY : Hid (btw ky 0 65535 = false) := hide ((btw_f_iff _ _ _).2 hky)
          have HP : hDo S (kd, ky, vl) = (S, ⟨1, 0, 0, false⟩) := by
            unfold hDo; simp only
            rw [if_neg (by omega), if_pos hky]
          rw [HP] at HST
          clear hkd hky HP
          go_wp2_with fail
          rw [← HW1.out]
          with_reducible refine (between_to _ _ _ true _ HBK.out).mono ?_
          rintro e w' ⟨rfl, rfl⟩
          go_wp2_with fail
          with_reducible refine (between_to _ _ _ false _ HBY.out).mono ?_
          rintro e w' ⟨rfl, rfl⟩
          have kX : Kp wr (W1.setCell ⟨wr.heap.size + 1, 0, none⟩ (.int .i64 1)) := HK1.out.setR (Nat.le_succ _)
          have HOX := hide (HO.out.kp kX)
          have HTX := hide (HTB.out.kp kX)
          have HMX := hide (om_kp HOM.out kX)
          have KX := hide (HKP.out.trans kX)
          have r0 : _ = some (Value.int .i64 0) := (HBA.out).cell 0
          have r1 : _ = some (Value.int .i64 0) := (HBA.out).cell 1
          have r2 : _ = some (Value.int .i64 0) := (HBA.out).cell 2
          have r3 : _ = some (Value.bool false) := (HBA.out).cell 3
          have q0 := (HBA.out).frozen 0
          have q1 := (HBA.out).frozen 1
          have q2 := (HBA.out).frozen 2
          have q3 := (HBA.out).frozen 3
          clear kX
          go_wp2_with (first | fail | (at_builtin; (with_reducible refine list_app (B := w.heap.size) (l := An0) (m := [(⟨1, 0, 0, false⟩ : An)]) row_ans (.slice A6 k c6) ?_ (.tmp 67) (.tmp 69) ?_ ?_ ?_ ?_ (HM1.out _) (HM2.out _) ?_ ?_); (with_reducible rfl); (with_reducible rfl); rfl; (exact HOX.out.alloc _); (show RD _ _ (.slice (some ⟨_, 0, none⟩) 1 1) _; (focus ((repeat (first | (with_reducible assumption) | exact RD.new1 _ rfl | (refine RD.new1e _ ?_ rfl; simp; done) | (with_reducible apply RD.alloc) | (with_reducible apply RD.drew) | (with_reducible apply RD.drewN) | ((with_reducible apply RD.belowR); (with_reducible assumption)))); done))); (have := KX.out.size; simp at this ⊢; omega); intro v3 w3 ho3 hg3 hat3))
          go_roundw
          case rel => exact ⟨k + 1, n, D, by omega, by go_num, World.ownsMap.kept (World.ownsMap.alloc HMX.out _) hg3 (fun e => HNO.out e.symm), by omega, by rw [HST.out]; exact HHM.out, bc_grown (HTX.out.kp (Kp.refl _).alloc) hg3 (fun e => HNT.out e.symm), by rw [HST.out]; exact ho3, Kp.app hg3 KX.out.alloc HO.out.hi⟩
          case measure => simp [intOf] <;> omega
      · have HBK : Hid (btw kd 1 5 = false) := hide ((btw_f_iff _ _ _).2 hkd)
        have HP : hDo S (kd, ky, vl) = (S, ⟨3, 0, 0, false⟩) := by
          unfold hDo; simp only
          rw [if_pos hkd]
        rw [HP] at HST
        clear hkd HP
        go_wp2_with fail
        rw [← HW1.out]
        with_reducible refine (between_to _ _ _ false _ HBK.out).mono ?_
        rintro e w' ⟨rfl, rfl⟩
        have kX : Kp wr (W1.setCell ⟨wr.heap.size + 1, 0, none⟩ (.int .i64 3)) := HK1.out.setR (Nat.le_succ _)
        have HOX := hide (HO.out.kp kX)
        have HTX := hide (HTB.out.kp kX)
        have HMX := hide (om_kp HOM.out kX)
        have KX := hide (HKP.out.trans kX)
        have r0 : _ = some (Value.int .i64 0) := (HBA.out).cell 0
        have r1 : _ = some (Value.int .i64 0) := (HBA.out).cell 1
        have r2 : _ = some (Value.int .i64 0) := (HBA.out).cell 2
        have r3 : _ = some (Value.bool false) := (HBA.out).cell 3
        have q0 := (HBA.out).frozen 0
        have q1 := (HBA.out).frozen 1
        have q2 := (HBA.out).frozen 2
        have q3 := (HBA.out).frozen 3
        clear kX
        go_wp2_with (first | fail | (at_builtin; (with_reducible refine list_app (B := w.heap.size) (l := An0) (m := [(⟨3, 0, 0, false⟩ : An)]) row_ans (.slice A6 k c6) ?_ (.tmp 67) (.tmp 69) ?_ ?_ ?_ ?_ (HM1.out _) (HM2.out _) ?_ ?_); (with_reducible rfl); (with_reducible rfl); rfl; (exact HOX.out.alloc _); (show RD _ _ (.slice (some ⟨_, 0, none⟩) 1 1) _; (focus ((repeat (first | (with_reducible assumption) | exact RD.new1 _ rfl | (refine RD.new1e _ ?_ rfl; simp; done) | (with_reducible apply RD.alloc) | (with_reducible apply RD.drew) | (with_reducible apply RD.drewN) | ((with_reducible apply RD.belowR); (with_reducible assumption)))); done))); (have := KX.out.size; simp at this ⊢; omega); intro v3 w3 ho3 hg3 hat3))
        go_roundw
        case rel => exact ⟨k + 1, n, D, by omega, by go_num, World.ownsMap.kept (World.ownsMap.alloc HMX.out _) hg3 (fun e => HNO.out e.symm), by omega, by rw [HST.out]; exact HHM.out, bc_grown (HTX.out.kp (Kp.refl _).alloc) hg3 (fun e => HNT.out e.symm), by rw [HST.out]; exact ho3, Kp.app hg3 KX.out.alloc HO.out.hi⟩
        case measure => simp [intOf] <;> omega
    · have hkl : ops.take k = ops := List.take_of_length_le (by omega)
      rw [hkl] at HO HHM
      obtain ⟨wb, rfl⟩ : ∃ x, x = wr := ⟨_, rfl⟩
      have hst := hRunL_st ops
      obtain ⟨⟨S, An0⟩, hS⟩ : ∃ S, S = hRunL ops := ⟨_, rfl⟩
      rw [← hS] at HO HHM hst ⊢
      simp only at HO HHM hst
      have HST := hide hst
      have HSE := hide hS
      have htc : wb.cell? ⟨w.heap.size + 1, 0, none⟩ = some (.map (some w.heap.size)) := HTB.out.cell 0
      clear hol hom hHM htb ho hkp hkl hS hst
      go_wp2_with (at_range; refine wpList_range_own _ rfl _ 60 rfl 3 3 int_law2 Try.underlying60 _ w.heap.size n D rfl HOM.out ?_; intro w0 hrg0 hg0 hs0)
      try go_frame
      have k0 : Kp wb w0 := Below.grown (Kp.refl wb) hg0 (Nat.le_refl _) (fun j hj => by cases hj)
      have HREL : Hid (KyR S w.heap.size wb.heap.size n D wb (.slice none 0 0) w0) := hide ⟨_, _, [], hrg0, OW.nil, by simp, (fun y hy => by cases hy), fun y hy hl => by have := HHM.out.hs y; rw [hl] at this; simp [hy] at this, fun y hy => by
        have := HHM.out.hs y; rw [hy] at this; simpa using this.symm, k0⟩
      clear hrg0 hg0 hs0 k0 htc
      go_loopw [10] (KyR S w.heap.size wb.heap.size n D wb) (fun _ W => W.rangeLeft w.heap.size wb.heap.size)
      case atStart => exact HREL.out
      case round =>
        clear HREL
        obtain ⟨left, cnt, ks, hrg, hok, hnd, hin, hall, hls, hkq⟩ := hrel
        have HRG := hide hrg
        have HOK := hide hok
        have HND := hide hnd
        have HIN := hide hin
        have HALL := hide hall
        have HLS := hide hls
        have HKQ := hide hkq
        have HKL : Hid (ks.length ≤ 300) := hide (by have := nodup_len_le ks S hnd (fun x hx => (hin x hx).1); have := HST.out.2; omega)
        clear hok hnd hin hall hls hkq
        go_wp2_with (at_next; refine wpList_next_ranges_ii _ rfl _ rfl 3 3 .i64 .i64 int_law2 Try.underlying3 Try.underlying3 w.heap.size wb.heap.size n _ _ _ rfl HRG.out ?_ ?_)
        · intro hc0 hl0
          have hmem : ∀ y, y ∈ S ↔ y ∈ ks := fun y => ⟨fun h => HALL.out y h (hl0 _), fun h => (HIN.out y h).1⟩
          have hle : S.length = ks.length := by
            have h1 := nodup_len_le ks S HND.out (fun x hx => (hmem x).2 hx)
            have h2 := nodup_len_le S ks (up_nodup HST.out.1.1) (fun x hx => (hmem x).1 hx)
            omega
          have HSK := hide (sortedKeys_any ks S u10 wr HOK.out.rd (by have := HKL.out; omega) hle HST.out.1.1 hmem (fun y hy => (HST.out.1.2 y ((hmem y).2 hy)).1))
          clear hmem hle
          go_wp2_with fail
          with_reducible refine HSK.out.mono ?_
          rintro e w6 ⟨v6, rfl, ho6, hb6⟩
          have HO6 := hide ho6.rd
          have k6 : Kp wb w6 := HKQ.out.trans (Kp.of hb6)
          have HK6 := hide k6
          clear ho6 hb6 k6
          go_wp2
          go_ret2
          exact ⟨_, _, rfl, by rw [← HSE.out]; exact HO6.out, by rw [← HSE.out]; exact (HO.out.rd).kp HK6.out, HKP.out.trans HK6.out⟩
        · intro x cc w1 cnt1 hwx hwc hlx hat hrg1 hlt1 hg1 hs1 hen
          have hxS := HLS.out x hlx
          have hxk : x ∉ ks := fun h => by have := (HIN.out x h).2; rw [this] at hlx; cases hlx
          have hk2 : Kp wb w1 := Below.grown HKQ.out hg1 HKQ.out.size (fun j hj => by cases hj; exact Nat.le_refl _)
          have hne : (Value.ownBlock u10) ≠ some wb.heap.size := rg_ow_ne HRG.out HOK.out
          have HNE := hide hne
          have HNB := hide (om_ow_ne HRG.out.owns HOK.out)
          have HRGM := hide hrg1
          have HM0 : Hid (cnt1 < wr.rangeLeft w.heap.size wb.heap.size) := hide (by rw [HRG.out.left_eq]; exact hlt1)
          have HOK1 := hide (OW.kept HOK.out hg1 (.inr hne))
          have HN1 : Hid ((ks ++ [x]).Nodup) := hide (by
            rw [List.nodup_append]
            refine ⟨HND.out, by simp, fun a ha b hb => ?_⟩
            simp at hb; subst hb
            rintro rfl; exact hxk ha)
          have HI1 : Hid (∀ y ∈ ks ++ [x], y ∈ S ∧ (left (kI y) && !(kI y).sameKey (kI x)) = false) := hide (fun y hy => by
            rw [List.mem_append, List.mem_singleton] at hy
            rcases hy with hy | rfl
            · exact ⟨(HIN.out y hy).1, by rw [(HIN.out y hy).2]; rfl⟩
            · exact ⟨hxS, by simp [Lit.sameKey]⟩)
          have HA1 : Hid (∀ y ∈ S, (left (kI y) && !(kI y).sameKey (kI x)) = false → y ∈ ks ++ [x]) := hide (fun y hy hl => by
            rw [List.mem_append, List.mem_singleton]
            rcases struck hl with e | e
            · exact .inr e
            · exact .inl (HALL.out y hy e))
          have HL1 : Hid (∀ y, (left (kI y) && !(kI y).sameKey (kI x)) = true → y ∈ S) := hide (fun y hy => HLS.out y (by simp at hy; exact hy.1))
          have HM1 : Hid ((ks.length + [x].length) * 8 ≤ 140737488355328) := hide (by have := HKL.out; simp; omega)
          have HM2 : Hid (ks.length + [x].length ≤ maxLen) := hide (by have := HKL.out; simp [maxLen]; omega)
          have HK2 := hide hk2
          clear hxS hxk hwx hwc hlx hat hrg1 hlt1 hg1 hs1 hk2 hne
          go_wp2_with (at_builtin; (with_reducible refine list_app (B := wb.heap.size) (l := ks) (m := [x]) row_int u10 ?_ (.tmp 78) (.tmp 80) ?_ ?_ ?_ ?_ HM1.out HM2.out ?_ ?_); (with_reducible rfl); (with_reducible rfl); rfl; (exact HOK1.out.alloc _); (show RD _ _ (.slice (some ⟨_, 0, none⟩) 1 1) _; (focus ((repeat (first | (with_reducible assumption) | exact RD.new1 _ rfl | (refine RD.new1e _ ?_ rfl; simp; done) | (with_reducible apply RD.alloc) | (with_reducible apply RD.drew) | (with_reducible apply RD.drewN) | ((with_reducible apply RD.belowR); (with_reducible assumption)))); done))); (have := HK2.out.size; simp; omega); intro v3 w3 ho3 hg3 hat3)
          go_roundw
          case rel => exact ⟨_, cnt1, ks ++ [x], World.ranges.kept (HRGM.out.alloc _) hg3 (fun e => HNB.out e.symm) (fun e => HNE.out e.symm), ho3, HN1.out, HI1.out, HA1.out, HL1.out, Kp.app hg3 HK2.out.alloc HOK.out.hi⟩
          case measure => rw [(World.ranges.kept (HRGM.out.alloc _) hg3 (fun e => HNB.out e.symm) (fun e => HNE.out e.symm)).left_eq]; exact HM0.out
end Go.Proofs.Ytmhabjjabdambaa
namespace Go.Proofs.Ytmhabjjabdambaa
open Go.ChangeShapes Go.WideShapes Go.ChangeAt Go.RowKit
set_option linter.unusedVariables false
set_option linter.unusedSimpArgs false

def stF (s : Int) (l : List Int) : Int := l.foldl (fun s k => if s = 0 ∧ ¬ (0 ≤ k ∧ k ≤ 65535) then 3 else s) s
def mnF (l : List Int) : Int := l.foldl (fun a k => if k < a then k else a) 65536
def mxF (l : List Int) : Int := l.foldl (fun a k => if a < k then k else a) (-1)
theorem stF_take (s : Int) (l : List Int) (k : Nat) (h : k < l.length) : stF s (l.take (k + 1)) = if stF s (l.take k) = 0 ∧ ¬ (0 ≤ l[k] ∧ l[k] ≤ 65535) then 3 else stF s (l.take k) := by
  rw [List.take_succ_eq_append_getElem h, stF, List.foldl_append]; rfl
theorem mnF_take (l : List Int) (k : Nat) (h : k < l.length) : mnF (l.take (k + 1)) = if l[k] < mnF (l.take k) then l[k] else mnF (l.take k) := by
  rw [List.take_succ_eq_append_getElem h, mnF, List.foldl_append]; rfl
theorem mxF_take (l : List Int) (k : Nat) (h : k < l.length) : mxF (l.take (k + 1)) = if mxF (l.take k) < l[k] then l[k] else mxF (l.take k) := by
  rw [List.take_succ_eq_append_getElem h, mxF, List.foldl_append]; rfl
theorem st_ne : ∀ (l : List Int) (s : Int), s ≠ 0 → stF s l = s
  | [], s, _ => rfl
  | x :: l, s, h => by
    show stF (if s = 0 ∧ ¬ (0 ≤ x ∧ x ≤ 65535) then 3 else s) l = s
    rw [if_neg (fun e => h e.1)]; exact st_ne l s h
theorem st_zero : ∀ (l : List Int), stF 0 l = if inHalf l then 0 else 3
  | [] => by rw [if_pos (show inHalf [] from fun x hx => by cases hx)]; rfl
  | x :: l => by
    show stF (if (0 : Int) = 0 ∧ ¬ (0 ≤ x ∧ x ≤ 65535) then 3 else 0) l = _
    by_cases h : 0 ≤ x ∧ x ≤ 65535
    · rw [if_neg (fun e => e.2 h), st_zero l]
      have : inHalf (x :: l) ↔ inHalf l := by simp [inHalf, h]
      by_cases h2 : inHalf l
      · rw [if_pos h2, if_pos (this.2 h2)]
      · rw [if_neg h2, if_neg (fun e => h2 (this.1 e))]
    · rw [if_pos ⟨rfl, h⟩, st_ne l 3 (by decide), if_neg (fun e => h (e x (by simp)))]
theorem mn_spec : ∀ (l : List Int) (a : Int), (∀ x ∈ l, l.foldl (fun a k => if k < a then k else a) a ≤ x) ∧ l.foldl (fun a k => if k < a then k else a) a ≤ a ∧ (l.foldl (fun a k => if k < a then k else a) a = a ∨ l.foldl (fun a k => if k < a then k else a) a ∈ l)
  | [], a => ⟨(fun x hx => by cases hx), Int.le_refl _, .inl rfl⟩
  | y :: l, a => by
    simp only [List.foldl_cons]
    obtain ⟨b, hb⟩ : ∃ b, b = if y < a then y else a := ⟨_, rfl⟩
    have hb2 : b ≤ y ∧ b ≤ a ∧ (b = a ∨ b = y) := by rw [hb]; split <;> omega
    rw [← hb]
    obtain ⟨h1, h2, h3⟩ := mn_spec l b
    refine ⟨fun x hx => ?_, by omega, ?_⟩
    · rcases List.mem_cons.1 hx with rfl | hx
      · omega
      · exact h1 x hx
    · rcases h3 with h3 | h3
      · rcases hb2.2.2 with e | e
        · exact .inl (h3.trans e)
        · rw [h3, e]; exact .inr (by simp)
      · exact .inr (by simp [h3])
theorem mx_spec : ∀ (l : List Int) (a : Int), (∀ x ∈ l, x ≤ l.foldl (fun a k => if a < k then k else a) a) ∧ a ≤ l.foldl (fun a k => if a < k then k else a) a ∧ (l.foldl (fun a k => if a < k then k else a) a = a ∨ l.foldl (fun a k => if a < k then k else a) a ∈ l)
  | [], a => ⟨(fun x hx => by cases hx), Int.le_refl _, .inl rfl⟩
  | y :: l, a => by
    simp only [List.foldl_cons]
    obtain ⟨b, hb⟩ : ∃ b, b = if a < y then y else a := ⟨_, rfl⟩
    have hb2 : y ≤ b ∧ a ≤ b ∧ (b = a ∨ b = y) := by rw [hb]; split <;> omega
    rw [← hb]
    obtain ⟨h1, h2, h3⟩ := mx_spec l b
    refine ⟨fun x hx => ?_, by omega, ?_⟩
    · rcases List.mem_cons.1 hx with rfl | hx
      · omega
      · exact h1 x hx
    · rcases h3 with h3 | h3
      · rcases hb2.2.2 with e | e
        · exact .inl (h3.trans e)
        · rw [h3, e]; exact .inr (by simp)
      · exact .inr (by simp [h3])
theorem insAll_mem (l : List Int) : UpL (insAll l) ∧ ∀ x, x ∈ insAll l ↔ x ∈ l := by
  have : ∀ (l S : List Int), UpL S → UpL (l.foldl insU S) ∧ ∀ x, x ∈ l.foldl insU S ↔ (x ∈ l ∨ x ∈ S) := by
    intro l
    induction l with
    | nil => exact fun S h => ⟨h, fun x => by simp⟩
    | cons y l ih =>
      intro S h
      obtain ⟨h1, h2⟩ := ih (insU S y) (insU_up h y)
      refine ⟨h1, fun x => ?_⟩
      rw [List.foldl_cons, h2, insU_mem, List.mem_cons]
      constructor
      · rintro (h | h | h)
        · exact .inl (.inr h)
        · exact .inl (.inl h)
        · exact .inr h
      · rintro ((h | h) | h)
        · exact .inr (.inl h)
        · exact .inl h
        · exact .inr (.inr h)
  have h := this l [] (by simp [UpL])
  exact ⟨h.1, fun x => by rw [insAll, h.2]; simp⟩
def s0F (n : Nat) : Int := if n > 300 then 2 else if n = 0 then 4 else 0
/-- Ends, as the law reckons it. -/
theorem ends_law (l : List Int) : hEnds l = if stF (s0F l.length) l ≠ 0 then (0, 0, stF (s0F l.length) l) else (mnF l, mxF l, 0) := by
  unfold hEnds s0F
  by_cases h1 : l.length > 300
  · rw [if_pos h1, if_pos h1, st_ne l 2 (by decide)]; rfl
  · rw [if_neg h1, if_neg h1]
    by_cases h2 : l.length = 0
    · obtain rfl : l = [] := List.eq_nil_of_length_eq_zero h2
      rfl
    · rw [if_neg h2, st_zero]
      by_cases h3 : inHalf l
      · rw [if_neg (not_not_intro h3), if_pos h3, if_neg (by decide)]
        obtain ⟨hu, hm⟩ := insAll_mem l
        have hp := List.pairwise_iff_getElem.1 hu
        obtain ⟨y, hy⟩ := List.exists_mem_of_length_pos (show 0 < l.length by omega)
        have h0 : 0 < (insAll l).length := List.length_pos_of_mem ((hm y).2 hy)
        have a1 := mn_spec l 65536
        have a2 := mx_spec l (-1)
        have b1 : mnF l ∈ l := by
          rcases a1.2.2 with e | e
          · have := a1.1 y hy; have := (h3 y hy).2; omega
          · exact e
        have b2 : mxF l ∈ l := by
          rcases a2.2.2 with e | e
          · have := a2.1 y hy; have := (h3 y hy).1; omega
          · exact e
        have c1 : (insAll l).head? = some (mnF l) := by
          rw [List.head?_eq_getElem?, List.getElem?_eq_getElem h0]
          obtain ⟨j, hj, e⟩ := List.getElem_of_mem ((hm _).2 b1)
          have := a1.1 _ ((hm _).1 (List.getElem_mem h0))
          by_cases e2 : j = 0
          · subst e2; rw [e]
          · have h9 := hp 0 j h0 hj (by omega)
            rw [e] at h9
            have : mnF l ≤ (insAll l)[0] := this
            omega
        have c2 : (insAll l).getLast? = some (mxF l) := by
          rw [List.getLast?_eq_getElem?, List.getElem?_eq_getElem (by omega)]
          obtain ⟨j, hj, e⟩ := List.getElem_of_mem ((hm _).2 b2)
          have := a2.1 _ ((hm _).1 (List.getElem_mem (show (insAll l).length - 1 < (insAll l).length by omega)))
          by_cases e2 : j = (insAll l).length - 1
          · subst e2; rw [e]
          · have h9 := hp j ((insAll l).length - 1) hj (by omega) (by omega)
            rw [e] at h9
            have : (insAll l)[(insAll l).length - 1] ≤ mxF l := this
            omega
        rw [c1, c2]
      · rw [if_pos h3, if_neg h3]; rfl
end Go.Proofs.Ytmhabjjabdambaa
namespace Go.Proofs.Ytmhabjjabdambaa
open Go.ChangeShapes Go.WideShapes Go.ChangeAt Go.RowKit
set_option linter.unusedVariables false
set_option linter.unusedSimpArgs false

def HyRel (l : List Int) (s0 : Int) (w : World) (sv mv xv iv : Value) (wr : World) : Prop :=
  ∃ k : Nat, k ≤ l.length ∧ iv = .int .i64 (k : Int) ∧ sv = .int .i64 (stF s0 (l.take k)) ∧ mv = .int .i64 (mnF (l.take k)) ∧ xv = .int .i64 (mxF (l.take k)) ∧ Kp w wr
set_option maxRecDepth 100000 in
set_option maxHeartbeats 8000000 in
theorem halfSays_walk (ops : List O3) (keys : List Int) (v u : Value) (w : World) (hr : RD w eOp v ops) (hu : RD w eInt u keys) : Calls Try.prog 4 #[v, u] w (Ret (.bool true) w) := by
  obtain ⟨A, c, rfl, hc, hm⟩ := hr.shape
  obtain ⟨A2, c2, rfl, hc2, hm2⟩ := hu.shape
  have HRD0 := hide hr
  have HKD0 := hide hu
  have HRU := hide (fun W v h => hRun_any ops v W h)
  have HEE := hide (fun W v h => hEnds_any keys v W h)
  have hlaw := ends_law keys
  clear hr hu
  by_cases hl3 : ops.length > 300
  · have e1 : hRun ops = ([], [], 2) := by rw [hRun, if_pos hl3]
    rw [e1] at HRU
    have dl : decide ((300 : Int) < (ops.length : Int)) = true := by simp; omega
    clear e1 hl3
    by_cases k1 : keys.length > 300
    · have t1 : decide ((300 : Int) < (keys.length : Int)) = true := by simp; omega
      have hs0 : s0F keys.length = 2 := if_pos k1
      clear k1
      rw [hs0] at hlaw
      have HLW := hide hlaw
      clear hlaw hs0
      go_enter Try.func4, Try.ntmps4
      go_wp2_with fail
      with_reducible refine (HRU.out _ _ HRD0.out).mono ?_
      rintro e w1 ⟨v1, u1, rfl, ho1, hu1, kk1⟩
      have HRS := hide ho1.rd
      have HUS := hide hu1
      clear ho1 hu1
      go_wp2_with fail
      with_reducible refine (HEE.out _ _ (HKD0.out.kp kk1)).mono ?_
      rintro e w2 ⟨rfl, kk2⟩
      have HK2 := hide (kk1.trans kk2)
      have HRS := hide (HRS.out.kp kk2)
      have HUS := hide (HUS.out.kp kk2)
      clear kk1 kk2
      go_wp2
      go_loopw [11, 12, 13, 40] (HyRel keys 2 w2) (fun _ _ _ i _ => keys.length - (intOf i).toNat)
      case atStart => exact ⟨0, by omega, rfl, rfl, rfl, rfl, Kp.refl _⟩
      case round =>
        obtain ⟨k, hk, rfl, rfl, rfl, rfl, hkp⟩ := hrel
        have HKP := hide hkp
        clear hkp
        by_cases hlt : k < keys.length
        · obtain ⟨b, o, rfl, _, x0⟩ := (HKD0.out.kp (HK2.out.trans HKP.out)).int hlt
          have h1 := stF_take 2 keys k hlt
          have h2 := mnF_take keys k hlt
          have h3 := mxF_take keys k hlt
          obtain ⟨y, hy⟩ : ∃ y, y = keys[k] := ⟨_, rfl⟩
          rw [← hy] at x0 h1 h2 h3
          obtain ⟨s, hs⟩ : ∃ s, s = stF 2 (keys.take k) := ⟨_, rfl⟩
          obtain ⟨mn, hmn⟩ : ∃ s, s = mnF (keys.take k) := ⟨_, rfl⟩
          obtain ⟨mx, hmx⟩ : ∃ s, s = mxF (keys.take k) := ⟨_, rfl⟩
          rw [← hs] at h1 ⊢
          rw [← hmn] at h2 ⊢
          rw [← hmx] at h3 ⊢
          have HS1 := hide h1
          have HN2 := hide h2
          have HX2 := hide h3
          clear h1 h2 h3 hy hs hmn hmx
          by_cases hs : s = 0
          · subst hs
            by_cases hin : 0 ≤ y ∧ y ≤ 65535
            · have HBY : Hid (btw y 0 65535 = true) := hide ((btw_iff _ _ _).2 hin)
              have HS2 : Hid (stF 2 (keys.take (k + 1)) = 0) := hide (by rw [HS1.out, if_neg (fun e => e.2 hin)])
              clear hin HS1
              go_wp2_with fail
              with_reducible refine (between_to _ _ _ true _ HBY.out).mono ?_
              rintro e w' ⟨rfl, rfl⟩
              go_wp2_with fail
              go_wp2
              go_roundw
              case rel => exact ⟨k + 1, by omega, by go_num, by rw [HS2.out], by rw [HN2.out], by rw [HX2.out], HKP.out⟩
              case measure => simp [intOf] <;> omega
            · have HBY : Hid (btw y 0 65535 = false) := hide ((btw_f_iff _ _ _).2 hin)
              have HS2 : Hid (stF 2 (keys.take (k + 1)) = 3) := hide (by rw [HS1.out, if_pos ⟨rfl, hin⟩])
              clear hin HS1
              go_wp2_with fail
              with_reducible refine (between_to _ _ _ false _ HBY.out).mono ?_
              rintro e w' ⟨rfl, rfl⟩
              go_wp2_with fail
              go_wp2
              go_roundw
              case rel => exact ⟨k + 1, by omega, by go_num, by rw [HS2.out], by rw [HN2.out], by rw [HX2.out], HKP.out⟩
              case measure => simp [intOf] <;> omega
          · have ts : (s == 0) = false := by simpa using hs
            have HS2 : Hid (stF 2 (keys.take (k + 1)) = s) := hide (by rw [HS1.out, if_neg (fun e => hs e.1)])
            clear hs HS1
            go_wp2_with fail
            go_wp2
            go_roundw
            case rel => exact ⟨k + 1, by omega, by go_num, by rw [HS2.out], by rw [HN2.out], by rw [HX2.out], HKP.out⟩
            case measure => simp [intOf] <;> omega
        · have hkl : keys.take k = keys := List.take_of_length_le (by omega)
          rw [hkl]
          obtain ⟨s, hs⟩ : ∃ s, s = stF 2 keys := ⟨_, rfl⟩
          obtain ⟨mn, hmn⟩ : ∃ s, s = mnF keys := ⟨_, rfl⟩
          obtain ⟨mx, hmx⟩ : ∃ s, s = mxF keys := ⟨_, rfl⟩
          have hl := HLW.out
          rw [← hs, ← hmn, ← hmx] at hl
          rw [← hs, ← hmn, ← hmx]
          clear hkl hs hmn hmx HLW
          by_cases h0 : s = 0
          · subst h0
            rw [if_neg (by decide)] at hl
            rw [hl]
            have t5 : (mn != mn) = false := by simp
            have t6 : (mx != mx) = false := by simp
            clear hl
            obtain ⟨A1, c1, rfl, _, _⟩ := HRS.out.shape
            obtain ⟨A9, c9, rfl, _, _⟩ := HUS.out.shape
            go_wp2
            go_ret
            exact ⟨rfl, (HK2.out.trans HKP.out).bel⟩
          · rw [if_pos h0] at hl
            rw [hl]
            have t5 : (s != 0) = true := by simp [h0]
            have t6 : (s != s) = false := by simp
            clear hl h0
            obtain ⟨A1, c1, rfl, _, _⟩ := HRS.out.shape
            obtain ⟨A9, c9, rfl, _, _⟩ := HUS.out.shape
            go_wp2
            go_ret
            exact ⟨rfl, (HK2.out.trans HKP.out).bel⟩
    · have t1 : decide ((300 : Int) < (keys.length : Int)) = false := by simp; omega
      by_cases k2 : keys.length = 0
      · have t2 : ((keys.length : Int) == 0) = true := beq_iff_eq.2 (by omega)
        have hs0 : s0F keys.length = 4 := by rw [s0F, if_neg k1, if_pos k2]
        clear k1 k2
        rw [hs0] at hlaw
        have HLW := hide hlaw
        clear hlaw hs0
        go_enter Try.func4, Try.ntmps4
        go_wp2_with fail
        with_reducible refine (HRU.out _ _ HRD0.out).mono ?_
        rintro e w1 ⟨v1, u1, rfl, ho1, hu1, kk1⟩
        have HRS := hide ho1.rd
        have HUS := hide hu1
        clear ho1 hu1
        go_wp2_with fail
        with_reducible refine (HEE.out _ _ (HKD0.out.kp kk1)).mono ?_
        rintro e w2 ⟨rfl, kk2⟩
        have HK2 := hide (kk1.trans kk2)
        have HRS := hide (HRS.out.kp kk2)
        have HUS := hide (HUS.out.kp kk2)
        clear kk1 kk2
        go_wp2
        go_loopw [11, 12, 13, 40] (HyRel keys 4 w2) (fun _ _ _ i _ => keys.length - (intOf i).toNat)
        case atStart => exact ⟨0, by omega, rfl, rfl, rfl, rfl, Kp.refl _⟩
        case round =>
          obtain ⟨k, hk, rfl, rfl, rfl, rfl, hkp⟩ := hrel
          have HKP := hide hkp
          clear hkp
          by_cases hlt : k < keys.length
          · obtain ⟨b, o, rfl, _, x0⟩ := (HKD0.out.kp (HK2.out.trans HKP.out)).int hlt
            have h1 := stF_take 4 keys k hlt
            have h2 := mnF_take keys k hlt
            have h3 := mxF_take keys k hlt
            obtain ⟨y, hy⟩ : ∃ y, y = keys[k] := ⟨_, rfl⟩
            rw [← hy] at x0 h1 h2 h3
            obtain ⟨s, hs⟩ : ∃ s, s = stF 4 (keys.take k) := ⟨_, rfl⟩
            obtain ⟨mn, hmn⟩ : ∃ s, s = mnF (keys.take k) := ⟨_, rfl⟩
            obtain ⟨mx, hmx⟩ : ∃ s, s = mxF (keys.take k) := ⟨_, rfl⟩
            rw [← hs] at h1 ⊢
            rw [← hmn] at h2 ⊢
            rw [← hmx] at h3 ⊢
            have HS1 := hide h1
            have HN2 := hide h2
            have HX2 := hide h3
            clear h1 h2 h3 hy hs hmn hmx
            by_cases hs : s = 0
            · subst hs
              by_cases hin : 0 ≤ y ∧ y ≤ 65535
              · have HBY : Hid (btw y 0 65535 = true) := hide ((btw_iff _ _ _).2 hin)
                have HS2 : Hid (stF 4 (keys.take (k + 1)) = 0) := hide (by rw [HS1.out, if_neg (fun e => e.2 hin)])
                clear hin HS1
                go_wp2_with fail
                with_reducible refine (between_to _ _ _ true _ HBY.out).mono ?_
                rintro e w' ⟨rfl, rfl⟩
                go_wp2_with fail
                go_wp2
                go_roundw
                case rel => exact ⟨k + 1, by omega, by go_num, by rw [HS2.out], by rw [HN2.out], by rw [HX2.out], HKP.out⟩
                case measure => simp [intOf] <;> omega
              · have HBY : Hid (btw y 0 65535 = false) := hide ((btw_f_iff _ _ _).2 hin)
                have HS2 : Hid (stF 4 (keys.take (k + 1)) = 3) := hide (by rw [HS1.out, if_pos ⟨rfl, hin⟩])
                clear hin HS1
                go_wp2_with fail
                with_reducible refine (between_to _ _ _ false _ HBY.out).mono ?_
                rintro e w' ⟨rfl, rfl⟩
                go_wp2_with fail
                go_wp2
                go_roundw
                case rel => exact ⟨k + 1, by omega, by go_num, by rw [HS2.out], by rw [HN2.out], by rw [HX2.out], HKP.out⟩
                case measure => simp [intOf] <;> omega
            · have ts : (s == 0) = false := by simpa using hs
              have HS2 : Hid (stF 4 (keys.take (k + 1)) = s) := hide (by rw [HS1.out, if_neg (fun e => hs e.1)])
              clear hs HS1
              go_wp2_with fail
              go_wp2
              go_roundw
              case rel => exact ⟨k + 1, by omega, by go_num, by rw [HS2.out], by rw [HN2.out], by rw [HX2.out], HKP.out⟩
              case measure => simp [intOf] <;> omega
          · have hkl : keys.take k = keys := List.take_of_length_le (by omega)
            rw [hkl]
            obtain ⟨s, hs⟩ : ∃ s, s = stF 4 keys := ⟨_, rfl⟩
            obtain ⟨mn, hmn⟩ : ∃ s, s = mnF keys := ⟨_, rfl⟩
            obtain ⟨mx, hmx⟩ : ∃ s, s = mxF keys := ⟨_, rfl⟩
            have hl := HLW.out
            rw [← hs, ← hmn, ← hmx] at hl
            rw [← hs, ← hmn, ← hmx]
            clear hkl hs hmn hmx HLW
            by_cases h0 : s = 0
            · subst h0
              rw [if_neg (by decide)] at hl
              rw [hl]
              have t5 : (mn != mn) = false := by simp
              have t6 : (mx != mx) = false := by simp
              clear hl
              obtain ⟨A1, c1, rfl, _, _⟩ := HRS.out.shape
              obtain ⟨A9, c9, rfl, _, _⟩ := HUS.out.shape
              go_wp2
              go_ret
              exact ⟨rfl, (HK2.out.trans HKP.out).bel⟩
            · rw [if_pos h0] at hl
              rw [hl]
              have t5 : (s != 0) = true := by simp [h0]
              have t6 : (s != s) = false := by simp
              clear hl h0
              obtain ⟨A1, c1, rfl, _, _⟩ := HRS.out.shape
              obtain ⟨A9, c9, rfl, _, _⟩ := HUS.out.shape
              go_wp2
              go_ret
              exact ⟨rfl, (HK2.out.trans HKP.out).bel⟩
      · have t2 : ((keys.length : Int) == 0) = false := beq_eq_false_iff_ne.2 (by omega)
        have hs0 : s0F keys.length = 0 := by rw [s0F, if_neg k1, if_neg k2]
        clear k1 k2
        rw [hs0] at hlaw
        have HLW := hide hlaw
        clear hlaw hs0
        go_enter Try.func4, Try.ntmps4
        go_wp2_with fail
        with_reducible refine (HRU.out _ _ HRD0.out).mono ?_
        rintro e w1 ⟨v1, u1, rfl, ho1, hu1, kk1⟩
        have HRS := hide ho1.rd
        have HUS := hide hu1
        clear ho1 hu1
        go_wp2_with fail
        with_reducible refine (HEE.out _ _ (HKD0.out.kp kk1)).mono ?_
        rintro e w2 ⟨rfl, kk2⟩
        have HK2 := hide (kk1.trans kk2)
        have HRS := hide (HRS.out.kp kk2)
        have HUS := hide (HUS.out.kp kk2)
        clear kk1 kk2
        go_wp2
        go_loopw [11, 12, 13, 40] (HyRel keys 0 w2) (fun _ _ _ i _ => keys.length - (intOf i).toNat)
        case atStart => exact ⟨0, by omega, rfl, rfl, rfl, rfl, Kp.refl _⟩
        case round =>
          obtain ⟨k, hk, rfl, rfl, rfl, rfl, hkp⟩ := hrel
          have HKP := hide hkp
          clear hkp
          by_cases hlt : k < keys.length
          · obtain ⟨b, o, rfl, _, x0⟩ := (HKD0.out.kp (HK2.out.trans HKP.out)).int hlt
            have h1 := stF_take 0 keys k hlt
            have h2 := mnF_take keys k hlt
            have h3 := mxF_take keys k hlt
            obtain ⟨y, hy⟩ : ∃ y, y = keys[k] := ⟨_, rfl⟩
            rw [← hy] at x0 h1 h2 h3
            obtain ⟨s, hs⟩ : ∃ s, s = stF 0 (keys.take k) := ⟨_, rfl⟩
            obtain ⟨mn, hmn⟩ : ∃ s, s = mnF (keys.take k) := ⟨_, rfl⟩
            obtain ⟨mx, hmx⟩ : ∃ s, s = mxF (keys.take k) := ⟨_, rfl⟩
            rw [← hs] at h1 ⊢
            rw [← hmn] at h2 ⊢
            rw [← hmx] at h3 ⊢
            have HS1 := hide h1
            have HN2 := hide h2
            have HX2 := hide h3
            clear h1 h2 h3 hy hs hmn hmx
            by_cases hs : s = 0
            · subst hs
              by_cases hin : 0 ≤ y ∧ y ≤ 65535
              · have HBY : Hid (btw y 0 65535 = true) := hide ((btw_iff _ _ _).2 hin)
                have HS2 : Hid (stF 0 (keys.take (k + 1)) = 0) := hide (by rw [HS1.out, if_neg (fun e => e.2 hin)])
                clear hin HS1
                go_wp2_with fail
                with_reducible refine (between_to _ _ _ true _ HBY.out).mono ?_
                rintro e w' ⟨rfl, rfl⟩
                go_wp2_with fail
                go_wp2
                go_roundw
                case rel => exact ⟨k + 1, by omega, by go_num, by rw [HS2.out], by rw [HN2.out], by rw [HX2.out], HKP.out⟩
                case measure => simp [intOf] <;> omega
              · have HBY : Hid (btw y 0 65535 = false) := hide ((btw_f_iff _ _ _).2 hin)
                have HS2 : Hid (stF 0 (keys.take (k + 1)) = 3) := hide (by rw [HS1.out, if_pos ⟨rfl, hin⟩])
                clear hin HS1
                go_wp2_with fail
                with_reducible refine (between_to _ _ _ false _ HBY.out).mono ?_
                rintro e w' ⟨rfl, rfl⟩
                go_wp2_with fail
                go_wp2
                go_roundw
                case rel => exact ⟨k + 1, by omega, by go_num, by rw [HS2.out], by rw [HN2.out], by rw [HX2.out], HKP.out⟩
                case measure => simp [intOf] <;> omega
            · have ts : (s == 0) = false := by simpa using hs
              have HS2 : Hid (stF 0 (keys.take (k + 1)) = s) := hide (by rw [HS1.out, if_neg (fun e => hs e.1)])
              clear hs HS1
              go_wp2_with fail
              go_wp2
              go_roundw
              case rel => exact ⟨k + 1, by omega, by go_num, by rw [HS2.out], by rw [HN2.out], by rw [HX2.out], HKP.out⟩
              case measure => simp [intOf] <;> omega
          · have hkl : keys.take k = keys := List.take_of_length_le (by omega)
            rw [hkl]
            obtain ⟨s, hs⟩ : ∃ s, s = stF 0 keys := ⟨_, rfl⟩
            obtain ⟨mn, hmn⟩ : ∃ s, s = mnF keys := ⟨_, rfl⟩
            obtain ⟨mx, hmx⟩ : ∃ s, s = mxF keys := ⟨_, rfl⟩
            have hl := HLW.out
            rw [← hs, ← hmn, ← hmx] at hl
            rw [← hs, ← hmn, ← hmx]
            clear hkl hs hmn hmx HLW
            by_cases h0 : s = 0
            · subst h0
              rw [if_neg (by decide)] at hl
              rw [hl]
              have t5 : (mn != mn) = false := by simp
              have t6 : (mx != mx) = false := by simp
              clear hl
              obtain ⟨A1, c1, rfl, _, _⟩ := HRS.out.shape
              obtain ⟨A9, c9, rfl, _, _⟩ := HUS.out.shape
              go_wp2
              go_ret
              exact ⟨rfl, (HK2.out.trans HKP.out).bel⟩
            · rw [if_pos h0] at hl
              rw [hl]
              have t5 : (s != 0) = true := by simp [h0]
              have t6 : (s != s) = false := by simp
              clear hl h0
              obtain ⟨A1, c1, rfl, _, _⟩ := HRS.out.shape
              obtain ⟨A9, c9, rfl, _, _⟩ := HUS.out.shape
              go_wp2
              go_ret
              exact ⟨rfl, (HK2.out.trans HKP.out).bel⟩
  · have e1 : hRun ops = ((hRunL ops).1, (hRunL ops).2, 0) := by rw [hRun, if_neg hl3]
    rw [e1] at HRU
    have dl : decide ((300 : Int) < (ops.length : Int)) = false := by simp; omega
    have HAA := hide (fun W v h => halfAnswered_any ops v W h (by omega))
    obtain ⟨⟨S, An0⟩, hS⟩ : ∃ S, S = hRunL ops := ⟨_, rfl⟩
    rw [← hS] at HRU HAA
    simp only at HRU HAA
    clear e1 hl3 hS
    by_cases k1 : keys.length > 300
    · have t1 : decide ((300 : Int) < (keys.length : Int)) = true := by simp; omega
      have hs0 : s0F keys.length = 2 := if_pos k1
      clear k1
      rw [hs0] at hlaw
      have HLW := hide hlaw
      clear hlaw hs0
      go_enter Try.func4, Try.ntmps4
      go_wp2_with fail
      with_reducible refine (HRU.out _ _ HRD0.out).mono ?_
      rintro e w1 ⟨v1, u1, rfl, ho1, hu1, kk1⟩
      have HRS := hide ho1.rd
      have HUS := hide hu1
      clear ho1 hu1
      go_wp2_with fail
      with_reducible refine (HEE.out _ _ (HKD0.out.kp kk1)).mono ?_
      rintro e w2 ⟨rfl, kk2⟩
      have HK2 := hide (kk1.trans kk2)
      have HRS := hide (HRS.out.kp kk2)
      have HUS := hide (HUS.out.kp kk2)
      clear kk1 kk2
      go_wp2
      go_loopw [11, 12, 13, 40] (HyRel keys 2 w2) (fun _ _ _ i _ => keys.length - (intOf i).toNat)
      case atStart => exact ⟨0, by omega, rfl, rfl, rfl, rfl, Kp.refl _⟩
      case round =>
        obtain ⟨k, hk, rfl, rfl, rfl, rfl, hkp⟩ := hrel
        have HKP := hide hkp
        clear hkp
        by_cases hlt : k < keys.length
        · obtain ⟨b, o, rfl, _, x0⟩ := (HKD0.out.kp (HK2.out.trans HKP.out)).int hlt
          have h1 := stF_take 2 keys k hlt
          have h2 := mnF_take keys k hlt
          have h3 := mxF_take keys k hlt
          obtain ⟨y, hy⟩ : ∃ y, y = keys[k] := ⟨_, rfl⟩
          rw [← hy] at x0 h1 h2 h3
          obtain ⟨s, hs⟩ : ∃ s, s = stF 2 (keys.take k) := ⟨_, rfl⟩
          obtain ⟨mn, hmn⟩ : ∃ s, s = mnF (keys.take k) := ⟨_, rfl⟩
          obtain ⟨mx, hmx⟩ : ∃ s, s = mxF (keys.take k) := ⟨_, rfl⟩
          rw [← hs] at h1 ⊢
          rw [← hmn] at h2 ⊢
          rw [← hmx] at h3 ⊢
          have HS1 := hide h1
          have HN2 := hide h2
          have HX2 := hide h3
          clear h1 h2 h3 hy hs hmn hmx
          by_cases hs : s = 0
          · subst hs
            by_cases hin : 0 ≤ y ∧ y ≤ 65535
            · have HBY : Hid (btw y 0 65535 = true) := hide ((btw_iff _ _ _).2 hin)
              have HS2 : Hid (stF 2 (keys.take (k + 1)) = 0) := hide (by rw [HS1.out, if_neg (fun e => e.2 hin)])
              clear hin HS1
              go_wp2_with fail
              with_reducible refine (between_to _ _ _ true _ HBY.out).mono ?_
              rintro e w' ⟨rfl, rfl⟩
              go_wp2_with fail
              go_wp2
              go_roundw
              case rel => exact ⟨k + 1, by omega, by go_num, by rw [HS2.out], by rw [HN2.out], by rw [HX2.out], HKP.out⟩
              case measure => simp [intOf] <;> omega
            · have HBY : Hid (btw y 0 65535 = false) := hide ((btw_f_iff _ _ _).2 hin)
              have HS2 : Hid (stF 2 (keys.take (k + 1)) = 3) := hide (by rw [HS1.out, if_pos ⟨rfl, hin⟩])
              clear hin HS1
              go_wp2_with fail
              with_reducible refine (between_to _ _ _ false _ HBY.out).mono ?_
              rintro e w' ⟨rfl, rfl⟩
              go_wp2_with fail
              go_wp2
              go_roundw
              case rel => exact ⟨k + 1, by omega, by go_num, by rw [HS2.out], by rw [HN2.out], by rw [HX2.out], HKP.out⟩
              case measure => simp [intOf] <;> omega
          · have ts : (s == 0) = false := by simpa using hs
            have HS2 : Hid (stF 2 (keys.take (k + 1)) = s) := hide (by rw [HS1.out, if_neg (fun e => hs e.1)])
            clear hs HS1
            go_wp2_with fail
            go_wp2
            go_roundw
            case rel => exact ⟨k + 1, by omega, by go_num, by rw [HS2.out], by rw [HN2.out], by rw [HX2.out], HKP.out⟩
            case measure => simp [intOf] <;> omega
        · have hkl : keys.take k = keys := List.take_of_length_le (by omega)
          rw [hkl]
          obtain ⟨s, hs⟩ : ∃ s, s = stF 2 keys := ⟨_, rfl⟩
          obtain ⟨mn, hmn⟩ : ∃ s, s = mnF keys := ⟨_, rfl⟩
          obtain ⟨mx, hmx⟩ : ∃ s, s = mxF keys := ⟨_, rfl⟩
          have hl := HLW.out
          rw [← hs, ← hmn, ← hmx] at hl
          rw [← hs, ← hmn, ← hmx]
          clear hkl hs hmn hmx HLW
          by_cases h0 : s = 0
          · subst h0
            rw [if_neg (by decide)] at hl
            rw [hl]
            have t5 : (mn != mn) = false := by simp
            have t6 : (mx != mx) = false := by simp
            clear hl
            go_wp2_with fail
            with_reducible refine (HAA.out _ _ (HRD0.out.kp (HK2.out.trans HKP.out))).mono ?_
            rintro e w5 ⟨v5, u5, rfl, hr5, hu5, k5⟩
            have HR5 := hide hr5
            have HU5 := hide hu5
            have HK5 := hide (HKP.out.trans k5)
            clear hr5 hu5 k5
            go_wp2_with fail
            with_reducible refine (sameInts_to _ _ true _ _ _ (HRS.out.kp HK5.out) HR5.out (by simp)).mono ?_
            rintro e w6 ⟨rfl, hb6⟩
            have HK6 := hide (Kp.of hb6)
            clear hb6
            go_wp2_with fail
            with_reducible refine (eqAns_same An0 _ _ _ (HUS.out.kp (HK5.out.trans HK6.out)) (HU5.out.kp HK6.out)).mono ?_
            rintro e w7 ⟨rfl, hb7⟩
            have HK7 := hide (Kp.of hb7)
            clear hb7
            go_wp2
            go_ret
            exact ⟨rfl, (HK2.out.trans (HK5.out.trans (HK6.out.trans HK7.out))).bel⟩
          · rw [if_pos h0] at hl
            rw [hl]
            have t5 : (s != 0) = true := by simp [h0]
            have t6 : (s != s) = false := by simp
            clear hl h0
            go_wp2_with fail
            with_reducible refine (HAA.out _ _ (HRD0.out.kp (HK2.out.trans HKP.out))).mono ?_
            rintro e w5 ⟨v5, u5, rfl, hr5, hu5, k5⟩
            have HR5 := hide hr5
            have HU5 := hide hu5
            have HK5 := hide (HKP.out.trans k5)
            clear hr5 hu5 k5
            go_wp2_with fail
            with_reducible refine (sameInts_to _ _ true _ _ _ (HRS.out.kp HK5.out) HR5.out (by simp)).mono ?_
            rintro e w6 ⟨rfl, hb6⟩
            have HK6 := hide (Kp.of hb6)
            clear hb6
            go_wp2_with fail
            with_reducible refine (eqAns_same An0 _ _ _ (HUS.out.kp (HK5.out.trans HK6.out)) (HU5.out.kp HK6.out)).mono ?_
            rintro e w7 ⟨rfl, hb7⟩
            have HK7 := hide (Kp.of hb7)
            clear hb7
            go_wp2
            go_ret
            exact ⟨rfl, (HK2.out.trans (HK5.out.trans (HK6.out.trans HK7.out))).bel⟩
    · have t1 : decide ((300 : Int) < (keys.length : Int)) = false := by simp; omega
      by_cases k2 : keys.length = 0
      · have t2 : ((keys.length : Int) == 0) = true := beq_iff_eq.2 (by omega)
        have hs0 : s0F keys.length = 4 := by rw [s0F, if_neg k1, if_pos k2]
        clear k1 k2
        rw [hs0] at hlaw
        have HLW := hide hlaw
        clear hlaw hs0
        go_enter Try.func4, Try.ntmps4
        go_wp2_with fail
        with_reducible refine (HRU.out _ _ HRD0.out).mono ?_
        rintro e w1 ⟨v1, u1, rfl, ho1, hu1, kk1⟩
        have HRS := hide ho1.rd
        have HUS := hide hu1
        clear ho1 hu1
        go_wp2_with fail
        with_reducible refine (HEE.out _ _ (HKD0.out.kp kk1)).mono ?_
        rintro e w2 ⟨rfl, kk2⟩
        have HK2 := hide (kk1.trans kk2)
        have HRS := hide (HRS.out.kp kk2)
        have HUS := hide (HUS.out.kp kk2)
        clear kk1 kk2
        go_wp2
        go_loopw [11, 12, 13, 40] (HyRel keys 4 w2) (fun _ _ _ i _ => keys.length - (intOf i).toNat)
        case atStart => exact ⟨0, by omega, rfl, rfl, rfl, rfl, Kp.refl _⟩
        case round =>
          obtain ⟨k, hk, rfl, rfl, rfl, rfl, hkp⟩ := hrel
          have HKP := hide hkp
          clear hkp
          by_cases hlt : k < keys.length
          · obtain ⟨b, o, rfl, _, x0⟩ := (HKD0.out.kp (HK2.out.trans HKP.out)).int hlt
            have h1 := stF_take 4 keys k hlt
            have h2 := mnF_take keys k hlt
            have h3 := mxF_take keys k hlt
            obtain ⟨y, hy⟩ : ∃ y, y = keys[k] := ⟨_, rfl⟩
            rw [← hy] at x0 h1 h2 h3
            obtain ⟨s, hs⟩ : ∃ s, s = stF 4 (keys.take k) := ⟨_, rfl⟩
            obtain ⟨mn, hmn⟩ : ∃ s, s = mnF (keys.take k) := ⟨_, rfl⟩
            obtain ⟨mx, hmx⟩ : ∃ s, s = mxF (keys.take k) := ⟨_, rfl⟩
            rw [← hs] at h1 ⊢
            rw [← hmn] at h2 ⊢
            rw [← hmx] at h3 ⊢
            have HS1 := hide h1
            have HN2 := hide h2
            have HX2 := hide h3
            clear h1 h2 h3 hy hs hmn hmx
            by_cases hs : s = 0
            · subst hs
              by_cases hin : 0 ≤ y ∧ y ≤ 65535
              · have HBY : Hid (btw y 0 65535 = true) := hide ((btw_iff _ _ _).2 hin)
                have HS2 : Hid (stF 4 (keys.take (k + 1)) = 0) := hide (by rw [HS1.out, if_neg (fun e => e.2 hin)])
                clear hin HS1
                go_wp2_with fail
                with_reducible refine (between_to _ _ _ true _ HBY.out).mono ?_
                rintro e w' ⟨rfl, rfl⟩
                go_wp2_with fail
                go_wp2
                go_roundw
                case rel => exact ⟨k + 1, by omega, by go_num, by rw [HS2.out], by rw [HN2.out], by rw [HX2.out], HKP.out⟩
                case measure => simp [intOf] <;> omega
              · have HBY : Hid (btw y 0 65535 = false) := hide ((btw_f_iff _ _ _).2 hin)
                have HS2 : Hid (stF 4 (keys.take (k + 1)) = 3) := hide (by rw [HS1.out, if_pos ⟨rfl, hin⟩])
                clear hin HS1
                go_wp2_with fail
                with_reducible refine (between_to _ _ _ false _ HBY.out).mono ?_
                rintro e w' ⟨rfl, rfl⟩
                go_wp2_with fail
                go_wp2
                go_roundw
                case rel => exact ⟨k + 1, by omega, by go_num, by rw [HS2.out], by rw [HN2.out], by rw [HX2.out], HKP.out⟩
                case measure => simp [intOf] <;> omega
            · have ts : (s == 0) = false := by simpa using hs
              have HS2 : Hid (stF 4 (keys.take (k + 1)) = s) := hide (by rw [HS1.out, if_neg (fun e => hs e.1)])
              clear hs HS1
              go_wp2_with fail
              go_wp2
              go_roundw
              case rel => exact ⟨k + 1, by omega, by go_num, by rw [HS2.out], by rw [HN2.out], by rw [HX2.out], HKP.out⟩
              case measure => simp [intOf] <;> omega
          · have hkl : keys.take k = keys := List.take_of_length_le (by omega)
            rw [hkl]
            obtain ⟨s, hs⟩ : ∃ s, s = stF 4 keys := ⟨_, rfl⟩
            obtain ⟨mn, hmn⟩ : ∃ s, s = mnF keys := ⟨_, rfl⟩
            obtain ⟨mx, hmx⟩ : ∃ s, s = mxF keys := ⟨_, rfl⟩
            have hl := HLW.out
            rw [← hs, ← hmn, ← hmx] at hl
            rw [← hs, ← hmn, ← hmx]
            clear hkl hs hmn hmx HLW
            by_cases h0 : s = 0
            · subst h0
              rw [if_neg (by decide)] at hl
              rw [hl]
              have t5 : (mn != mn) = false := by simp
              have t6 : (mx != mx) = false := by simp
              clear hl
              go_wp2_with fail
              with_reducible refine (HAA.out _ _ (HRD0.out.kp (HK2.out.trans HKP.out))).mono ?_
              rintro e w5 ⟨v5, u5, rfl, hr5, hu5, k5⟩
              have HR5 := hide hr5
              have HU5 := hide hu5
              have HK5 := hide (HKP.out.trans k5)
              clear hr5 hu5 k5
              go_wp2_with fail
              with_reducible refine (sameInts_to _ _ true _ _ _ (HRS.out.kp HK5.out) HR5.out (by simp)).mono ?_
              rintro e w6 ⟨rfl, hb6⟩
              have HK6 := hide (Kp.of hb6)
              clear hb6
              go_wp2_with fail
              with_reducible refine (eqAns_same An0 _ _ _ (HUS.out.kp (HK5.out.trans HK6.out)) (HU5.out.kp HK6.out)).mono ?_
              rintro e w7 ⟨rfl, hb7⟩
              have HK7 := hide (Kp.of hb7)
              clear hb7
              go_wp2
              go_ret
              exact ⟨rfl, (HK2.out.trans (HK5.out.trans (HK6.out.trans HK7.out))).bel⟩
            · rw [if_pos h0] at hl
              rw [hl]
              have t5 : (s != 0) = true := by simp [h0]
              have t6 : (s != s) = false := by simp
              clear hl h0
              go_wp2_with fail
              with_reducible refine (HAA.out _ _ (HRD0.out.kp (HK2.out.trans HKP.out))).mono ?_
              rintro e w5 ⟨v5, u5, rfl, hr5, hu5, k5⟩
              have HR5 := hide hr5
              have HU5 := hide hu5
              have HK5 := hide (HKP.out.trans k5)
              clear hr5 hu5 k5
              go_wp2_with fail
              with_reducible refine (sameInts_to _ _ true _ _ _ (HRS.out.kp HK5.out) HR5.out (by simp)).mono ?_
              rintro e w6 ⟨rfl, hb6⟩
              have HK6 := hide (Kp.of hb6)
              clear hb6
              go_wp2_with fail
              with_reducible refine (eqAns_same An0 _ _ _ (HUS.out.kp (HK5.out.trans HK6.out)) (HU5.out.kp HK6.out)).mono ?_
              rintro e w7 ⟨rfl, hb7⟩
              have HK7 := hide (Kp.of hb7)
              clear hb7
              go_wp2
              go_ret
              exact ⟨rfl, (HK2.out.trans (HK5.out.trans (HK6.out.trans HK7.out))).bel⟩
      · have t2 : ((keys.length : Int) == 0) = false := beq_eq_false_iff_ne.2 (by omega)
        have hs0 : s0F keys.length = 0 := by rw [s0F, if_neg k1, if_neg k2]
        clear k1 k2
        rw [hs0] at hlaw
        have HLW := hide hlaw
        clear hlaw hs0
        go_enter Try.func4, Try.ntmps4
        go_wp2_with fail
        with_reducible refine (HRU.out _ _ HRD0.out).mono ?_
        rintro e w1 ⟨v1, u1, rfl, ho1, hu1, kk1⟩
        have HRS := hide ho1.rd
        have HUS := hide hu1
        clear ho1 hu1
        go_wp2_with fail
        with_reducible refine (HEE.out _ _ (HKD0.out.kp kk1)).mono ?_
        rintro e w2 ⟨rfl, kk2⟩
        have HK2 := hide (kk1.trans kk2)
        have HRS := hide (HRS.out.kp kk2)
        have HUS := hide (HUS.out.kp kk2)
        clear kk1 kk2
        go_wp2
        go_loopw [11, 12, 13, 40] (HyRel keys 0 w2) (fun _ _ _ i _ => keys.length - (intOf i).toNat)
        case atStart => exact ⟨0, by omega, rfl, rfl, rfl, rfl, Kp.refl _⟩
        case round =>
          obtain ⟨k, hk, rfl, rfl, rfl, rfl, hkp⟩ := hrel
          have HKP := hide hkp
          clear hkp
          by_cases hlt : k < keys.length
          · obtain ⟨b, o, rfl, _, x0⟩ := (HKD0.out.kp (HK2.out.trans HKP.out)).int hlt
            have h1 := stF_take 0 keys k hlt
            have h2 := mnF_take keys k hlt
            have h3 := mxF_take keys k hlt
            obtain ⟨y, hy⟩ : ∃ y, y = keys[k] := ⟨_, rfl⟩
            rw [← hy] at x0 h1 h2 h3
            obtain ⟨s, hs⟩ : ∃ s, s = stF 0 (keys.take k) := ⟨_, rfl⟩
            obtain ⟨mn, hmn⟩ : ∃ s, s = mnF (keys.take k) := ⟨_, rfl⟩
            obtain ⟨mx, hmx⟩ : ∃ s, s = mxF (keys.take k) := ⟨_, rfl⟩
            rw [← hs] at h1 ⊢
            rw [← hmn] at h2 ⊢
            rw [← hmx] at h3 ⊢
            have HS1 := hide h1
            have HN2 := hide h2
            have HX2 := hide h3
            clear h1 h2 h3 hy hs hmn hmx
            by_cases hs : s = 0
            · subst hs
              by_cases hin : 0 ≤ y ∧ y ≤ 65535
              · have HBY : Hid (btw y 0 65535 = true) := hide ((btw_iff _ _ _).2 hin)
                have HS2 : Hid (stF 0 (keys.take (k + 1)) = 0) := hide (by rw [HS1.out, if_neg (fun e => e.2 hin)])
                clear hin HS1
                go_wp2_with fail
                with_reducible refine (between_to _ _ _ true _ HBY.out).mono ?_
                rintro e w' ⟨rfl, rfl⟩
                go_wp2_with fail
                go_wp2
                go_roundw
                case rel => exact ⟨k + 1, by omega, by go_num, by rw [HS2.out], by rw [HN2.out], by rw [HX2.out], HKP.out⟩
                case measure => simp [intOf] <;> omega
              · have HBY : Hid (btw y 0 65535 = false) := hide ((btw_f_iff _ _ _).2 hin)
                have HS2 : Hid (stF 0 (keys.take (k + 1)) = 3) := hide (by rw [HS1.out, if_pos ⟨rfl, hin⟩])
                clear hin HS1
                go_wp2_with fail
                with_reducible refine (between_to _ _ _ false _ HBY.out).mono ?_
                rintro e w' ⟨rfl, rfl⟩
                go_wp2_with fail
                go_wp2
                go_roundw
                case rel => exact ⟨k + 1, by omega, by go_num, by rw [HS2.out], by rw [HN2.out], by rw [HX2.out], HKP.out⟩
                case measure => simp [intOf] <;> omega
            · have ts : (s == 0) = false := by simpa using hs
              have HS2 : Hid (stF 0 (keys.take (k + 1)) = s) := hide (by rw [HS1.out, if_neg (fun e => hs e.1)])
              clear hs HS1
              go_wp2_with fail
              go_wp2
              go_roundw
              case rel => exact ⟨k + 1, by omega, by go_num, by rw [HS2.out], by rw [HN2.out], by rw [HX2.out], HKP.out⟩
              case measure => simp [intOf] <;> omega
          · have hkl : keys.take k = keys := List.take_of_length_le (by omega)
            rw [hkl]
            obtain ⟨s, hs⟩ : ∃ s, s = stF 0 keys := ⟨_, rfl⟩
            obtain ⟨mn, hmn⟩ : ∃ s, s = mnF keys := ⟨_, rfl⟩
            obtain ⟨mx, hmx⟩ : ∃ s, s = mxF keys := ⟨_, rfl⟩
            have hl := HLW.out
            rw [← hs, ← hmn, ← hmx] at hl
            rw [← hs, ← hmn, ← hmx]
            clear hkl hs hmn hmx HLW
            by_cases h0 : s = 0
            · subst h0
              rw [if_neg (by decide)] at hl
              rw [hl]
              have t5 : (mn != mn) = false := by simp
              have t6 : (mx != mx) = false := by simp
              clear hl
              go_wp2_with fail
              with_reducible refine (HAA.out _ _ (HRD0.out.kp (HK2.out.trans HKP.out))).mono ?_
              rintro e w5 ⟨v5, u5, rfl, hr5, hu5, k5⟩
              have HR5 := hide hr5
              have HU5 := hide hu5
              have HK5 := hide (HKP.out.trans k5)
              clear hr5 hu5 k5
              go_wp2_with fail
              with_reducible refine (sameInts_to _ _ true _ _ _ (HRS.out.kp HK5.out) HR5.out (by simp)).mono ?_
              rintro e w6 ⟨rfl, hb6⟩
              have HK6 := hide (Kp.of hb6)
              clear hb6
              go_wp2_with fail
              with_reducible refine (eqAns_same An0 _ _ _ (HUS.out.kp (HK5.out.trans HK6.out)) (HU5.out.kp HK6.out)).mono ?_
              rintro e w7 ⟨rfl, hb7⟩
              have HK7 := hide (Kp.of hb7)
              clear hb7
              go_wp2
              go_ret
              exact ⟨rfl, (HK2.out.trans (HK5.out.trans (HK6.out.trans HK7.out))).bel⟩
            · rw [if_pos h0] at hl
              rw [hl]
              have t5 : (s != 0) = true := by simp [h0]
              have t6 : (s != s) = false := by simp
              clear hl h0
              go_wp2_with fail
              with_reducible refine (HAA.out _ _ (HRD0.out.kp (HK2.out.trans HKP.out))).mono ?_
              rintro e w5 ⟨v5, u5, rfl, hr5, hu5, k5⟩
              have HR5 := hide hr5
              have HU5 := hide hu5
              have HK5 := hide (HKP.out.trans k5)
              clear hr5 hu5 k5
              go_wp2_with fail
              with_reducible refine (sameInts_to _ _ true _ _ _ (HRS.out.kp HK5.out) HR5.out (by simp)).mono ?_
              rintro e w6 ⟨rfl, hb6⟩
              have HK6 := hide (Kp.of hb6)
              clear hb6
              go_wp2_with fail
              with_reducible refine (eqAns_same An0 _ _ _ (HUS.out.kp (HK5.out.trans HK6.out)) (HU5.out.kp HK6.out)).mono ?_
              rintro e w7 ⟨rfl, hb7⟩
              have HK7 := hide (Kp.of hb7)
              clear hb7
              go_wp2
              go_ret
              exact ⟨rfl, (HK2.out.trans (HK5.out.trans (HK6.out.trans HK7.out))).bel⟩
end Go.Proofs.Ytmhabjjabdambaa
namespace Go.Proofs.Ytmhabjjabdambaa
open Go.ChangeShapes Go.WideShapes Go.ChangeAt Go.RowKit Go.Deep
set_option linter.unusedVariables false
set_option linter.unusedSimpArgs false

set_option maxRecDepth 100000 in
theorem halfSays_lifted (os : Os) (started : os.Started) (H : Type) (enc : TypeId × Value → H) :
    ReturnsInHanded {} Try.checked os 4 .any (Rows.halfSaysSpec.pre6 enc Try.prog Try.f4 Rows.halfSaysRow.domain false) (Rows.halfSaysSpec.post enc Try.prog Try.f4 false true false false) := by
  refine returnsInHanded_of_change (C := Try.checked) own started (by kernel_rfl) Try.func4
    (ChangeSpec.witness6 (enc := enc) (C := Try.checked) false ⟨#[], #[.slice none 0 0, .slice none 0 0], []⟩ 8 (by kernel_rfl) (by kernel_rfl) (by kernel_rfl) (by kernel_rfl)) ?_
  intro W base args ds gs before hval0 hW hcnd _
  have hval : ∀ (j : Nat) t v, Try.f4.params[j]? = some t → args[j]? = some v → Value.okWide Try.prog W .any base t v := hval0
  have hW' := hW
  obtain ⟨p, q, hA0, hV, rfl, hfz, hnd⟩ := hW
  have hA : DataW.TrodAll enc Try.prog W 0 (fun _ => true) true Try.f4.params.toList args.toList ds p := hA0
  rw [Try.params4] at hA hval
  obtain ⟨v0, vs0, d0, ds0, p0, q0, hargs, rfl, rfl, h0, r0⟩ := trodAll_cons hA
  obtain ⟨v1, vs1, d1, ds1, p1, q1, rfl, rfl, rfl, h1, r1⟩ := trodAll_cons r0
  obtain ⟨rfl, rfl, rfl⟩ := trodAll_nil r1
  obtain rfl : args = #[v0, v1] := by cases args; simp_all
  obtain ⟨rfl, rfl⟩ := trodVars_none hV
  obtain ⟨a0, n0, c0, rfl⟩ := okWide_slice Try.underlying29 (hval 0 29 v0 rfl rfl)
  obtain ⟨a1, n1, c1, rfl⟩ := okWide_slice Try.underlying22 (hval 1 22 v1 rfl rfl)
  have lt0 : ∀ x ∈ p0, x.block < W.heap.size := by obtain ⟨m, hm⟩ := h0; exact DataW.trod_lt m _ _ _ hm
  have lt1 : ∀ x ∈ p1, x.block < W.heap.size := by obtain ⟨m, hm⟩ := h1; exact DataW.trod_lt m _ _ _ hm
  obtain ⟨l0, w0⟩ := arg_ops h0
  obtain ⟨l1, w1⟩ := arg_ints h1
  clear hA0 hval0
  refine (halfSays_walk l0 l1 _ _ W w0 w1).mono fun e W' ⟨he, bel⟩ => ?_
  subst he
  exact ⟨_, rfl, _, _, _, [], _, [], hW', trodAll_mk1 (shut_bool Try.underlying4 _), (trodAll_cons_mk (Below.trod laidOut (by kernel_rfl) (of_decide_eq_true (by kernel_rfl)) h0 bel lt0) (trodAll_cons_mk (Below.trod laidOut (by kernel_rfl) (of_decide_eq_true (by kernel_rfl)) h1 bel lt1) trodAll_mk0)), rfl, bel.frame _, fun h => by cases h⟩

set_option maxRecDepth 100000 in
set_option maxHeartbeats 8000000 in
theorem halfSays_closed : joinedFacts Try.checked.prog 4 Try.f4 Rows.halfSaysSpec Rows.halfSaysRow = true := by
  unfold joinedFacts
  repeat' (with_reducible refine and_true_of ?_ ?_)
  all_goals (as_aux_lemma => kernel_rfl)
theorem halfSays_over : Rows.halfSaysRow.holds Try.pinned (OpenSpec.ofChange Rows.halfSaysSpec) :=
  OpenClaim.holds_of_wide 4 Try.f4 rfl rfl rfl rfl rfl rfl rfl ⟨rfl, rfl, rfl, rfl, rfl⟩ rfl rfl rfl rfl rfl (by as_aux_lemma => kernel_rfl) Try.func4 halfSays_closed
    (of_decide_eq_true (by as_aux_lemma => kernel_rfl)) (by as_aux_lemma => unfold Func.isWrapper; first | (rw [if_pos (by decide +kernel)]; kernel_rfl) | (rw [if_neg (by decide +kernel)]; exact ⟨rfl, rfl⟩))
    (fun os started H enc _ => halfSays_lifted os started H enc)
theorem halfSays_proved : Rows.HalfSaysSaid := halfSays_over
#print axioms halfSays_proved
end Go.Proofs.Ytmhabjjabdambaa
