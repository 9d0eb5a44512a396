/-
  Plain laws on lists of pairs whose keys rise. No program. Conditions: none.
  plain.find and what it calls (cmp.Compare, slices.BinarySearchFunc at pairs): what they answer. Conditions: the list reads as l (RD); its keys rise.
  slices.Insert at pairs, one value: what it answers. Conditions: the slice is owned by the caller (OW); the value lies in a block of its own; at most 1000 elements.
  slices.Delete at pairs, one element: what it answers. Conditions: the slice is owned by the caller (OW); at most 1000 elements.
  plain.told, plain.put: what they answer. Conditions: of each contract.
  slices.Clone at pairs and spots: what it answers. Conditions: the list reads as l (RD).
  plain.Do: what it answers. Conditions: the list reads as l (RD).
  plain.Run: what it answers. Conditions: the list of ops reads as ops (RD).
-/
import Derived.Test.YthbapflabjogkaaHeapOneM7
import Derived.Test.YthbapflabjogkaaHeapOneM3
import Derived.Test.YthbapflabjogkaaHeapOneM11
import Derived.Laws.NewBlocks

namespace Go.Proofs.Ythbapflabjogkaa
open Go.ChangeShapes Go.WideShapes Go.ChangeAt Go.RowKit
set_option linter.unusedVariables false
set_option linter.unusedSimpArgs false

theorem mrFrom_01 : ∀ (l : List IP) (last : Int), mrFrom last l = 0 ∨ mrFrom last l = 3
  | [], _ => .inl rfl
  | p :: t, last => by
    unfold mrFrom
    split
    · exact mrFrom_01 t p.1
    · exact .inr rfl
theorem mrFrom_cons {p : IP} {t : List IP} {last : Int} (h : mrFrom last (p :: t) = 0) : last < p.1 ∧ p.1 ≤ 1000000 ∧ mrFrom p.1 t = 0 := by
  unfold mrFrom at h
  split at h
  · rename_i hb
    have := (btw_iff _ _ _).1 hb
    exact ⟨by omega, this.2, h⟩
  · omega
theorem mrFrom_gt : ∀ (l : List IP) (last : Int), mrFrom last l = 0 → ∀ x ∈ l, last < x.1
  | [], _, _, x, hx => by cases hx
  | p :: t, last, h, x, hx => by
    obtain ⟨h1, h2, h3⟩ := mrFrom_cons h
    rcases List.mem_cons.1 hx with rfl | hx
    · exact h1
    · have := mrFrom_gt t p.1 h3 x hx; omega
theorem mrFrom_append : ∀ (a b : List IP) (last : Int), mrFrom last a = 0 → (∀ l2, (∀ x ∈ a, x.1 ≤ l2) → last ≤ l2 → (a = [] → l2 = last) → (∀ x, a.getLast? = some x → l2 = x.1) → mrFrom l2 b = 0) → mrFrom last (a ++ b) = 0
  | [], b, last, _, h => by simpa using h last (by simp) (by omega) (fun _ => rfl) (by simp)
  | p :: t, b, last, ha, h => by
    obtain ⟨h1, h2, h3⟩ := mrFrom_cons ha
    rw [List.cons_append, mrFrom, if_pos ((btw_iff _ _ _).2 ⟨by omega, h2⟩)]
    refine mrFrom_append t b p.1 h3 fun l2 g1 g2 g3 g4 => ?_
    refine h l2 (fun x hx => ?_) (by omega) (by simp) (fun x hx => ?_)
    · rcases List.mem_cons.1 hx with rfl | hx
      · exact g2
      · exact g1 x hx
    · cases t with
      | nil => simp at hx; subst hx; exact g3 rfl
      | cons q t => exact g4 x (by simpa [List.getLast?_cons_cons] using hx)
theorem mrFrom_more {b : List IP} {l1 l2 : Int} (h : mrFrom l1 b = 0) (h2 : ∀ x ∈ b, l2 < x.1) : mrFrom l2 b = 0 := by
  cases b with
  | nil => rfl
  | cons p t =>
    obtain ⟨g1, g2, g3⟩ := mrFrom_cons h
    have := h2 p (by simp)
    rw [mrFrom, if_pos ((btw_iff _ _ _).2 ⟨by omega, g2⟩), g3]
theorem mapRight_from (l : List IP) (h : mapRight l = 0) : mrFrom (-1) l = 0 := by
  unfold mapRight at h
  split at h
  · omega
  · exact h

theorem mrFrom_keys : ∀ (l m : List IP) (last : Int), l.map Prod.fst = m.map Prod.fst → mrFrom last l = mrFrom last m
  | [], [], _, _ => rfl
  | [], _ :: _, _, h => by simp at h
  | _ :: _, [], _, h => by simp at h
  | p :: t, q :: u, last, h => by
    simp only [List.map_cons, List.cons.injEq] at h
    rw [mrFrom, mrFrom, h.1, mrFrom_keys t u q.1 h.2]
theorem mapRight_keys (l m : List IP) (h : l.map Prod.fst = m.map Prod.fst) : mapRight l = mapRight m := by
  have hl : l.length = m.length := by simpa using congrArg List.length h
  rw [mapRight, mapRight, hl, mrFrom_keys l m _ h]
theorem mrFrom_rise : ∀ (l : List IP) (last : Int), mrFrom last l = 0 → ∀ i j (hi : i < l.length) (hj : j < l.length), i < j → l[i].1 < l[j].1
  | p :: t, last, h, 0, j + 1, hi, hj, _ => by
    obtain ⟨_, _, h3⟩ := mrFrom_cons h
    simp only [List.getElem_cons_zero, List.getElem_cons_succ]
    exact mrFrom_gt t p.1 h3 _ (List.getElem_mem _)
  | p :: t, last, h, i + 1, j + 1, hi, hj, hij => by
    obtain ⟨_, _, h3⟩ := mrFrom_cons h
    simp only [List.getElem_cons_succ]
    exact mrFrom_rise t p.1 h3 i j (by simpa using hi) (by simpa using hj) (by omega)
  | _, _, _, 0, 0, _, _, h => by omega
  | _, _, _, i + 1, 0, _, _, h => by omega
theorem mrFrom_le6 : ∀ (l : List IP) (last : Int), mrFrom last l = 0 → ∀ x ∈ l, x.1 ≤ 1000000
  | [], _, _, x, hx => by cases hx
  | p :: t, last, h, x, hx => by
    obtain ⟨h1, h2, h3⟩ := mrFrom_cons h
    rcases List.mem_cons.1 hx with rfl | hx
    · exact h2
    · exact mrFrom_le6 t p.1 h3 x hx
theorem mapRight_rise (l : List IP) (h : mapRight l = 0) (i j : Nat) (hi : i < l.length) (hj : j < l.length) (hij : i < j) : l[i].1 < l[j].1 := mrFrom_rise l (-1) (mapRight_from l h) i j hi hj hij
theorem mapRight_in (l : List IP) (h : mapRight l = 0) (x : IP) (hx : x ∈ l) : 0 ≤ x.1 ∧ x.1 ≤ 1000000 :=
  ⟨by have := mrFrom_gt l (-1) (mapRight_from l h) x hx; omega, mrFrom_le6 l (-1) (mapRight_from l h) x hx⟩
end Go.Proofs.Ythbapflabjogkaa
namespace Go.Proofs.Ythbapflabjogkaa
open Go.ChangeShapes Go.WideShapes Go.ChangeAt Go.RowKit
set_option linter.unusedVariables false
set_option linter.unusedSimpArgs false

def cmp3 (a b : Int) : Int := if a < b then -1 else if b < a then 1 else 0
theorem cmp3_neg (a b : Int) : decide (cmp3 a b < 0) = decide (a < b) := by
  unfold cmp3; split <;> (try split) <;> simp <;> omega
theorem cmp3_zero (a b : Int) : (cmp3 a b == 0) = (a == b) := by
  unfold cmp3; split <;> (try split) <;> simp <;> omega
/-- So many keys are less. -/
def below (l : List IP) (k : Int) : Nat := (l.filter fun p => decide (p.1 < k)).length
def hasKey (l : List IP) (k : Int) : Bool := l.any fun p => p.1 == k
def Rise (l : List IP) : Prop := ∀ i j (hi : i < l.length) (hj : j < l.length), i < j → l[i].1 < l[j].1
theorem Rise.tail {p : IP} {l : List IP} (h : Rise (p :: l)) : Rise l := fun i j hi hj hij => h (i + 1) (j + 1) (by simp; omega) (by simp; omega) (by omega)
theorem below_le (l : List IP) (k : Int) : below l k ≤ l.length := List.length_filter_le _ _
/-- In a list that rises: those ahead of the place are less, those from it on are not. -/
theorem below_cut : ∀ (l : List IP), Rise l → ∀ k i (hi : i < l.length), (i < below l k ↔ l[i].1 < k)
  | [], _, _, i, hi => by simp at hi
  | p :: t, h, k, i, hi => by
    have hz : ∀ j (hj : j < t.length), p.1 < t[j].1 := fun j hj => h 0 (j + 1) (by simp) (by simpa using hj) (by omega)
    by_cases hp : p.1 < k
    · have e : below (p :: t) k = below t k + 1 := by simp [below, List.filter_cons, hp]
      rw [e]
      cases i with
      | zero => simp [hp]
      | succ i =>
        simp only [List.getElem_cons_succ, Nat.add_lt_add_iff_right]
        exact below_cut t h.tail k i (by simpa using hi)
    · have e : below (p :: t) k = 0 := by
        have : ∀ x ∈ t, ¬ x.1 < k := fun x hx => by
          obtain ⟨j, hj, rfl⟩ := List.getElem_of_mem hx
          have := hz j hj; omega
        simp only [below, List.length_eq_zero_iff, List.filter_eq_nil_iff, decide_eq_true_eq, List.mem_cons]
        rintro x (rfl | hx)
        · exact hp
        · exact this x hx
      rw [e]
      cases i with
      | zero => simp [hp]
      | succ i =>
        simp only [List.getElem_cons_succ]
        have := hz i (by simpa using hi)
        omega
theorem hasKey_iff (l : List IP) (h : Rise l) (k : Int) : hasKey l k = true ↔ ∃ h : below l k < l.length, (l[below l k]'h).1 = k := by
  simp only [hasKey, List.any_eq_true, beq_iff_eq]
  constructor
  · rintro ⟨x, hx, hk⟩
    obtain ⟨j, hj, rfl⟩ := List.getElem_of_mem hx
    have h1 := (below_cut l h k j hj)
    have hb : below l k ≤ j := by omega
    have hlt : below l k < l.length := by omega
    refine ⟨hlt, ?_⟩
    have h2 := below_cut l h k (below l k) hlt
    rcases Nat.lt_or_ge (below l k) j with h3 | h3
    · have := h _ _ hlt hj h3; omega
    · have e : below l k = j := by omega
      simp only [e]; exact hk
  · rintro ⟨hlt, hk⟩
    exact ⟨_, List.getElem_mem hlt, hk⟩

def FRel (l : List IP) (k : Int) (w : World) (iv jv : Value) (wr : World) : Prop :=
  ∃ i j : Nat, i ≤ j ∧ j ≤ l.length ∧ iv = .int .i64 i ∧ jv = .int .i64 j ∧ i ≤ below l k ∧ below l k ≤ j ∧ Kp w wr

theorem half_up (i j : Nat) (hj : i + j ≤ 1000000) : IntKind.i64.wrap (IntKind.u64.wrap ((i : Int) + (j : Int)) / 2) = (((i + j) / 2 : Nat) : Int) := by
  have h1 : IntKind.u64.wrap ((i : Int) + (j : Int)) = (i : Int) + (j : Int) := by
    simp [IntKind.wrap, IntKind.bits, IntKind.signed]; omega
  rw [h1, IntWalk.i64_in _ (by omega)]
  omega

end Go.Proofs.Ythbapflabjogkaa
namespace Go.Proofs.Ythbapflabjogkaa
open Go.ChangeShapes Go.WideShapes Go.ChangeAt Go.RowKit
set_option linter.unusedVariables false
set_option linter.unusedSimpArgs false

/-- What a call leaves that answers a slice made of one that its caller owned. -/
def OPost (B : Nat) (t : TypeId) (l : List IP) (v : Value) (w : World) (e : Ending) (w' : World) : Prop :=
  ∃ v', e = .returned v' ∧ OW w' B t ePair v' l ∧ w.grownBy w' v.ownBlock ∧ (v'.ownBlock = v.ownBlock ∨ ∃ k, v'.ownBlock = some k ∧ w.heap.size ≤ k)
theorem OPost.kp {w0 w w' : World} {v : Value} (hg : w.grownBy w' v.ownBlock) (h : Kp w0 w) (hv : Hi w0.heap.size v) : Kp w0 w' := Kp.app hg h hv
theorem flat_take {α : Type} (E : Enc α) (l : List α) (k : Nat) (h : k ≤ l.length) : (l.flatMap E.cells).take (k * E.size) = (l.take k).flatMap E.cells := by
  have e : l.flatMap E.cells = (l.take k).flatMap E.cells ++ (l.drop k).flatMap E.cells := by rw [← List.flatMap_append, List.take_append_drop]
  rw [e, List.take_left']
  rw [flat_len]; simp [h]
theorem flat_drop {α : Type} (E : Enc α) (l : List α) (k : Nat) (h : k ≤ l.length) : (l.flatMap E.cells).drop (k * E.size) = (l.drop k).flatMap E.cells := by
  have e : l.flatMap E.cells = (l.take k).flatMap E.cells ++ (l.drop k).flatMap E.cells := by rw [← List.flatMap_append, List.take_append_drop]
  rw [e, List.drop_left']
  rw [flat_len]; simp [h]
/-- Cells of a part of a list. -/
theorem cells_drop {w : World} {g : Nat} {t : TypeId} {cur : List Value} {α : Type} {E : Enc α} {l : List α} (hg : BK w g t cur) (ht : cur.take (l.length * E.size) = l.flatMap E.cells) (k : Nat) (hk : k ≤ l.length) :
    ∀ j v, ((l.drop k).flatMap E.cells)[j]? = some v → w.cell? ⟨g, k * E.size + j, none⟩ = some v := fun j v hj => by
  rw [hg.cell, ← hj, ← flat_drop E l k hk, ← ht, List.getElem?_drop, List.getElem?_take, if_pos]
  have h1 := (List.getElem?_eq_some_iff.1 hj).1
  rw [flat_len, List.length_drop] at h1
  have h2 : (l.length - k) * E.size = l.length * E.size - k * E.size := Nat.sub_mul _ _ _
  have h3 : k * E.size ≤ l.length * E.size := Nat.mul_le_mul_right _ hk
  omega

end Go.Proofs.Ythbapflabjogkaa
namespace Go.Proofs.Ythbapflabjogkaa
open Go.ChangeShapes Go.WideShapes Go.ChangeAt Go.RowKit
set_option linter.unusedVariables false
set_option linter.unusedSimpArgs false

end Go.Proofs.Ythbapflabjogkaa
namespace Go.Proofs.Ythbapflabjogkaa
open Go.ChangeShapes Go.WideShapes Go.ChangeAt Go.RowKit
set_option linter.unusedVariables false
set_option linter.unusedSimpArgs false

def toldL (l : List IP) (at_ : Int) : An := if h : 0 ≤ at_ ∧ at_ < l.length then ⟨0, (l[at_.toNat]'(by omega)).1, (l[at_.toNat]'(by omega)).2, true⟩ else ⟨0, 0, 0, false⟩
theorem toldL_no (l : List IP) (at_ : Int) (h : ¬ (0 ≤ at_ ∧ at_ < l.length)) : toldL l at_ = ⟨0, 0, 0, false⟩ := by rw [toldL, dif_neg h]
theorem toldL_at (l : List IP) (k : Nat) (h : k < l.length) : toldL l (k : Int) = ⟨0, l[k].1, l[k].2, true⟩ := by
  rw [toldL, dif_pos (by omega)]; rfl

def putL (l : List IP) (key val : Int) : List IP × An :=
  if hasKey l key then (l.set (below l key) (key, val), ⟨0, 0, 0, true⟩)
  else if l.length = 200 then (l, ⟨2, 0, 0, false⟩)
  else (l.take (below l key) ++ [(key, val)] ++ l.drop (below l key), ⟨0, 0, 0, false⟩)
def PutPost (w0 : World) (r : List IP × An) (e : Ending) (w' : World) : Prop := ∃ v', e = .returned (.tuple #[v', r.2.v]) ∧ OW w' w0.heap.size 37 ePair v' r.1 ∧ Kp w0 w'

end Go.Proofs.Ythbapflabjogkaa
namespace Go.Proofs.Ythbapflabjogkaa
open Go.ChangeShapes Go.WideShapes Go.ChangeAt Go.RowKit
set_option linter.unusedVariables false
set_option linter.unusedSimpArgs false

set_option maxHeartbeats 400000 in
theorem clonePairs_any (l : List IP) (v : Value) (w : World) (hr : RD w ePair v l) (hn : l.length ≤ 1000000) : Calls Try.prog 19 #[v] w (RetOW 37 ePair l w) := by
  obtain ⟨A, c, rfl, hc, hm, hA, h3⟩ := id hr
  have he := fun W => Lib.run_eql_slice_nil (P := Try.prog) W 22 37 A l.length c 0 0 Try.underlying22
  have HR := hide hr
  clear hr h3
  cases A with
  | none =>
    have hc0 : c = 0 := hA rfl
    have hl : l = [] := List.eq_nil_of_length_eq_zero (by omega)
    subst hl
    subst hc0
    clear hA
    simp only [List.length_nil] at he ⊢
    go_enter Try.func19, Try.ntmps19
    go_wp2
    go_ret
    exact ⟨_, rfl, OW.nil, Below.refl _ _⟩
  | some a =>
    have HM1 : Hid ((([] : List IP).length + l.length) * 16 ≤ 140737488355328) := hide (by simp; omega)
    have HM2 : Hid (([] : List IP).length + l.length ≤ maxLen) := hide (by simp [maxLen]; omega)
    have HE : Hid (OW (w.alloc (.cells #[] 37)) w.heap.size 37 ePair (.slice (some ⟨w.heap.size, 0, none⟩) 0 0) ([] : List IP)) := hide (OW.empty (Nat.le_refl _))
    have HHI : Hi w.heap.size (.slice (some ⟨w.heap.size, 0, none⟩) 0 0) := fun k hk => by simp [Value.ownBlock] at hk; omega
    clear hA
    go_enter Try.func19, Try.ntmps19
    go_wp2_with (at_builtin; (with_reducible refine list_app (B := w.heap.size) (l := ([] : List IP)) (m := l) row_pair (.slice (some ⟨w.heap.size, 0, none⟩) 0 0) ?_ (.tmp 5) (.tmp 6) ?_ ?_ ?_ ?_ HM1.out HM2.out ?_ ?_); (with_reducible rfl); (with_reducible rfl); rfl; (exact HE.out); (show RD _ _ (.slice (some a) l.length c) _; exact HR.out.alloc _); (simp); intro v3 w3 ho3 hg3 hat3)
    go_ret
    exact ⟨_, rfl, ho3, (Kp.app hg3 (Kp.refl w).alloc HHI).bel⟩
end Go.Proofs.Ythbapflabjogkaa
namespace Go.Proofs.Ythbapflabjogkaa
open Go.ChangeShapes Go.WideShapes Go.ChangeAt Go.RowKit
set_option linter.unusedVariables false
set_option linter.unusedSimpArgs false

def doL (l : List IP) (kind key val : Int) : List IP × An :=
  if ¬ (1 ≤ kind ∧ kind ≤ 7) ∨ (kind ≤ 5 ∧ ¬ (0 ≤ key ∧ key ≤ 1000000)) then (l, ⟨1, 0, 0, false⟩)
  else if kind = 1 then putL l key val
  else if kind = 2 then (l, if hasKey l key then ⟨0, 0, gv l (below l key), true⟩ else ⟨0, 0, 0, false⟩)
  else if kind = 3 then (if hasKey l key then (l.take (below l key) ++ l.drop (below l key + 1), ⟨0, 0, gv l (below l key), true⟩) else (l, ⟨0, 0, 0, false⟩))
  else if kind = 4 then (l, toldL l (if hasKey l key then (below l key : Int) + 1 else below l key))
  else if kind = 5 then (l, toldL l ((below l key : Int) - 1))
  else if kind = 6 then (l, ⟨0, 0, below l key, true⟩)
  else (l, toldL l key)
def doA (l : List IP) (kind key val : Int) : List IP × An := if mapRight l = 0 then doL l kind key val else ([], ⟨mapRight l, 0, 0, false⟩)
def DoPost (r : List IP × An) (w : World) (e : Ending) (w' : World) : Prop := ∃ v', e = .returned (.tuple #[v', r.2.v]) ∧ OW w' w.heap.size 37 ePair v' r.1 ∧ Below w.heap.size w w'

/-- The boxes of Do: the op, the answer. -/
def DB (a : Nat) (kind key val : Int) (W : World) : Prop :=
  W.cell? ⟨a, 0, none⟩ = some (.int .i64 kind) ∧ W.cell? ⟨a, 1, none⟩ = some (.int .i64 key) ∧ W.cell? ⟨a, 2, none⟩ = some (.int .i64 val) ∧
  W.cell? ⟨a + 1, 0, none⟩ = some (.int .i64 0) ∧ W.cell? ⟨a + 1, 1, none⟩ = some (.int .i64 0) ∧ W.cell? ⟨a + 1, 2, none⟩ = some (.int .i64 0) ∧ W.cell? ⟨a + 1, 3, none⟩ = some (.bool false) ∧
  W.frozen? ⟨a + 1, 0, none⟩ = false ∧ W.frozen? ⟨a + 1, 1, none⟩ = false ∧ W.frozen? ⟨a + 1, 2, none⟩ = false ∧ W.frozen? ⟨a + 1, 3, none⟩ = false
theorem DB.kp {a : Nat} {kind key val : Int} {W W' : World} (h : DB a kind key val W) (hk : Kp W W') : DB a kind key val W' := by
  obtain ⟨o0, o1, o2, r0, r1, r2, r3, f0, f1, f2, f3⟩ := h
  have hz := World.block_lt_of_cell? _ _ r0
  exact ⟨hk.cell o0, hk.cell o1, hk.cell o2, hk.cell r0, hk.cell r1, hk.cell r2, hk.cell r3, (hk.frozen (p := ⟨a + 1, 0, none⟩) hz).trans f0, (hk.frozen (p := ⟨a + 1, 1, none⟩) hz).trans f1, (hk.frozen (p := ⟨a + 1, 2, none⟩) hz).trans f2, (hk.frozen (p := ⟨a + 1, 3, none⟩) hz).trans f3⟩

end Go.Proofs.Ythbapflabjogkaa
namespace Go.Proofs.Ythbapflabjogkaa
open Go.ChangeShapes Go.WideShapes Go.ChangeAt Go.RowKit
set_option linter.unusedVariables false
set_option linter.unusedSimpArgs false

def runS (s : List IP × List An) (o : O3) : List IP × List An := ((doA s.1 o.1 o.2.1 o.2.2).1, s.2 ++ [(doA s.1 o.1 o.2.1 o.2.2).2])
def runL (ops : List O3) : List IP × List An := ops.foldl runS ([], [])
def runOf (ops : List O3) : List IP × List An × Int := if ops.length > 300 then ([], [], 2) else ((runL ops).1, (runL ops).2, 0)
theorem runL_take (ops : List O3) (k : Nat) (h : k < ops.length) : runL (ops.take (k + 1)) = runS (runL (ops.take k)) ops[k] := by
  rw [List.take_succ_eq_append_getElem h, runL, List.foldl_append]; rfl
theorem runL_len (ops : List O3) (k : Nat) (h : k ≤ ops.length) : (runL (ops.take k)).2.length = k := by
  induction k with
  | zero => rfl
  | succ k ih =>
    rw [runL_take ops k (by omega), runS, List.length_append, ih (by omega)]; rfl
def RunPost (r : List IP × List An × Int) (w : World) (e : Ending) (w' : World) : Prop := ∃ v u, e = .returned (.tuple #[v, u, .int .i64 r.2.2]) ∧ RD w' ePair v r.1 ∧ RD w' eAns u r.2.1 ∧ Below w.heap.size w w'
end Go.Proofs.Ythbapflabjogkaa
