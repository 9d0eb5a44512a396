/-
  hedgref.ToldKeys, node first and node last: what it answers
  A stable sort: what its steps leave of the order of those of one key
  A stable sort, plain laws by segments: swapped elements, blocks that change places, rotati
  A region that reads and stores twice at its end, whatever the order (JS): what its world i
  A row of pairs that is sorted in place, in memory: an element loaded, two that change plac
  slices.insertionSortCmpFunc at spots: what it leaves of a part of a row
  slices.swapRangeCmpFunc, rotateCmpFunc at spots: what they leave
  slices.rotateCmpFunc at spots: what it leaves
  slices.symMergeCmpFunc at spots: what it leaves of two sorted parts
  slices.symMergeCmpFunc at spots, where the second part is of one element
-/
import Derived.Test.YtcljlnagpjilaaaGreatDoorG36
import Derived.Test.YtcljlnagpjilaaaGreatDoorG6
import Derived.Test.YtcljlnagpjilaaaGreatDoorG1
import Derived.Test.YtcljlnagpjilaaaGreatDoorG32
import Derived.Test.YtcljlnagpjilaaaGreatDoorG3

set_option linter.unusedVariables false
set_option linter.unusedSimpArgs false
set_option maxRecDepth 100000
set_option maxHeartbeats 8000000
namespace Go.Proofs.YtcljlnagpjilaaaGreatDoor
open Go.ChangeShapes Go.WideShapes Go.ChangeAt Go.RowKit
def told1 : T -> List Int
 | .nil => []
 | .node k l r => [k] ++ told1 l ++ told1 r
def told2 : T -> List Int
 | .nil => []
 | .node k l r => told2 l ++ told2 r ++ [k]
theorem told1_len : ∀ t : T, (told1 t).length = t.size
 | .nil => rfl
 | .node k l r => by simp [told1, T.size, told1_len l, told1_len r]; omega
theorem told2_len : ∀ t : T, (told2 t).length = t.size
 | .nil => rfl
 | .node k l r => by simp [told2, T.size, told2_len l, told2_len r]; omega
theorem OW.new1 {w : World} {B g : Nat} {x : Int} (hg : w.heap.size = g) (hB : B <= g) : OW (w.alloc (.cells #[.int .i64 x] 3)) B 3 eInt (.slice (some ⟨g, 0, none⟩) 1 1) [x] := by
 subst hg
 exact BK.ow (l := [x]) (E := eInt) (c := 1) (heap_alloc_new w _) hB (Nat.le_refl _) (by simp [maxLen]) rfl rfl
theorem told2_any : ∀ (t : T) (v : Option Addr) (w : World), TR w t v -> t.size <= 1073741824 -> Calls Tryz.prog 61 #[.pointer v, .int .i64 2] w (RetOW 3 eInt (told2 t) w)
  | .nil, v, w, h, h1 => by
    have h' : v = none := h
    subst h'
    go_enter Tryz.func61, Tryz.ntmps61
    go_wp2
    go_ret
    exact ⟨_, rfl, OW.nil, Below.refl _ _⟩
  | .node k l r, v, w, h, h1 => by
    obtain ⟨b, pl, pr, rfl, hb, c0, c1, c2, hl, hr⟩ := h
    simp only [T.size] at h1
    have HI := hide (fun w h => told2_any l pl w h (by omega))
    have HJ := hide (fun w h => told2_any r pr w h (by omega))
    have HL := hide hl
    have HR := hide hr
    clear hl hr
    have HM1 : Hid (((told2 l).length + (told2 r).length) * 8 <= 140737488355328) := hide (by rw [told2_len, told2_len]; omega)
    have HM2 : Hid ((told2 l).length + (told2 r).length <= maxLen) := hide (by rw [told2_len, told2_len]; simp [maxLen]; omega)
    have HM3 : Hid (((told2 l ++ told2 r).length + [k].length) * 8 <= 140737488355328) := hide (by rw [List.length_append, told2_len, told2_len]; simp; omega)
    have HM4 : Hid ((told2 l ++ told2 r).length + [k].length <= maxLen) := hide (by rw [List.length_append, told2_len, told2_len]; simp [maxLen]; omega)
    have KS : Hid (∀ W', Kp w W' -> (W'.cell? ⟨b, 0, none⟩ = some (.int .i64 k) /\ W'.cell? ⟨b, 1, none⟩ = some (.pointer pl) /\ W'.cell? ⟨b, 2, none⟩ = some (.pointer pr) /\ Kp w W')) :=
      hide fun W' h => ⟨h.cell c0, h.cell c1, h.cell c2, h⟩
    have K0 := Kp.refl w
    have K1 := K0.drew
    clear h1
    go_enter Tryz.func61, Tryz.ntmps61
    go_wp2_with fail
    go_region_held3 (fun w' => w'.cell? ⟨b, 0, none⟩ = some (.int .i64 k) /\ w'.cell? ⟨b, 1, none⟩ = some (.pointer pl) /\ w'.cell? ⟨b, 2, none⟩ = some (.pointer pr) /\ Kp w w')
      ((go_split_ands
        refine KS.out _ ?_
        (exact Kp.auto)))
      (first
        | (go_at_call_of 61 (Value.pointer pl); refine (HI.out _ (HL.out.below (Kp.bel ?_))).mono ?_; (go_split_ands; (exact Kp.auto)); rintro e w1 ⟨v1, rfl, ho1', hb1⟩; have hi1x := ho1'.hi; have ho1 := OW.more ho1' (Kp.size (w := w) (by go_split_ands; (exact Kp.auto))); have lo1 := ho1.lo; have hi1 := ho1.hi; clear ho1')
        | (go_at_call_of 61 (Value.pointer pr); refine (HJ.out _ (HR.out.below (Kp.bel ?_))).mono ?_; (go_split_ands; (exact Kp.auto)); rintro e w2 ⟨v2, rfl, ho2', hb2⟩; have ho2 := OW.more ho2' (Kp.size (w := w) (by go_split_ands; (exact Kp.auto))); try have hap := lo1.apart (Hi.mono ho2'.hi (by simp)); clear ho2')
        | ((with_reducible refine step_app (l := told2 l) (m := told2 r) row_int v1 ?_ (.tmp 42) (.tmp 47) ?_ ?_ ?_ ?_ HM1.out HM2.out (Kp.size (w := w) ?_) ?_); (with_reducible rfl); (with_reducible rfl); rfl; (exact OW.auto); (show RD _ _ v2 _; refine OW.rd (B := w.heap.size) (e := 3) ?_; (exact OW.auto)); (go_split_ands; (exact Kp.auto)); intro v3 w3 ho3 hg3 hat3; have hi3 := ho3.hi)
        | ((with_reducible refine step_app (l := told2 l ++ told2 r) (m := [k]) row_int v3 ?_ (.tmp 48) (.tmp 53) ?_ ?_ ?_ ?_ HM3.out HM4.out (Kp.size (w := w) ?_) ?_); (with_reducible rfl); (with_reducible rfl); rfl; (exact OW.auto); (show RD _ _ (.slice (some ⟨_, 0, none⟩) 1 1) _; (first | (focus ((repeat (first | (with_reducible assumption) | exact RD.new1 _ rfl | (refine RD.new1e _ ?_ rfl; simp; done) | (with_reducible first | apply RD.alloc | apply RD.drew | apply RD.drewN) | ((with_reducible apply RD.belowR); (with_reducible assumption)))); done)) | ((repeat (first | (with_reducible first | apply RD.alloc | apply RD.drew | apply RD.drewN))); (with_reducible refine RD.grownR hg3 ?_ ?_); (focus (intro h; have a := lo1 _ h.symm; have b := hi1x _ h.symm; (try have s1 := hb1.size); (try have s2 := hb2.size); simp at a b; (try simp at s1); (try simp at s2); (try omega); done)); (focus ((repeat (first | (with_reducible assumption) | exact RD.new1 _ rfl | (refine RD.new1e _ ?_ rfl; simp; done) | (with_reducible first | apply RD.alloc | apply RD.drew | apply RD.drewN) | ((with_reducible apply RD.belowR); (with_reducible assumption)))); done))))); (go_split_ands; (exact Kp.auto)); intro v4 w4 ho4 hg4 hat4))
    all_goals
      go_wp2
      go_ret
      exact ⟨_, rfl, ho4, Kp.bel (by (exact Kp.auto))⟩
theorem told1_any : ∀ (t : T) (v : Option Addr) (w : World), TR w t v -> t.size <= 1073741824 -> Calls Tryz.prog 61 #[.pointer v, .int .i64 1] w (RetOW 3 eInt (told1 t) w)
  | .nil, v, w, h, h1 => by
    have h' : v = none := h
    subst h'
    go_enter Tryz.func61, Tryz.ntmps61
    go_wp2
    go_ret
    exact ⟨_, rfl, OW.nil, Below.refl _ _⟩
  | .node k l r, v, w, h, h1 => by
    obtain ⟨b, pl, pr, rfl, hb, c0, c1, c2, hl, hr⟩ := h
    simp only [T.size] at h1
    have HI := hide (fun w h => told1_any l pl w h (by omega))
    have HJ := hide (fun w h => told1_any r pr w h (by omega))
    have HL := hide hl
    have HR := hide hr
    clear hl hr
    have HM1 : Hid (([k].length + (told1 l).length) * 8 <= 140737488355328) := hide (by rw [told1_len]; simp; omega)
    have HM2 : Hid ([k].length + (told1 l).length <= maxLen) := hide (by rw [told1_len]; simp [maxLen]; omega)
    have HM3 : Hid ((([k] ++ told1 l).length + (told1 r).length) * 8 <= 140737488355328) := hide (by rw [List.length_append, told1_len, told1_len]; simp; omega)
    have HM4 : Hid (([k] ++ told1 l).length + (told1 r).length <= maxLen) := hide (by rw [List.length_append, told1_len, told1_len]; simp [maxLen]; omega)
    have KS : Hid (∀ W', Kp w W' -> (W'.cell? ⟨b, 0, none⟩ = some (.int .i64 k) /\ W'.cell? ⟨b, 1, none⟩ = some (.pointer pl) /\ W'.cell? ⟨b, 2, none⟩ = some (.pointer pr) /\ Kp w W')) :=
      hide fun W' h => ⟨h.cell c0, h.cell c1, h.cell c2, h⟩
    have K0 := Kp.refl w
    have K1 := K0.drew
    clear h1
    go_enter Tryz.func61, Tryz.ntmps61
    go_wp2_with fail
    go_region_held3 (fun w' => w'.cell? ⟨b, 0, none⟩ = some (.int .i64 k) /\ w'.cell? ⟨b, 1, none⟩ = some (.pointer pl) /\ w'.cell? ⟨b, 2, none⟩ = some (.pointer pr) /\ Kp w w')
      ((go_split_ands
        refine KS.out _ ?_
        (exact Kp.auto)))
      (first
        | (go_at_call_of 61 (Value.pointer pl); refine (HI.out _ (HL.out.below (Kp.bel ?_))).mono ?_; (go_split_ands; (exact Kp.auto)); rintro e w1 ⟨v1, rfl, ho1', hb1⟩; have hi1x := ho1'.hi; have ho1 := OW.more ho1' (Kp.size (w := w) (by go_split_ands; (exact Kp.auto))); have lo1 := ho1.lo; have hi1 := ho1.hi; clear ho1')
        | (go_at_call_of 61 (Value.pointer pr); refine (HJ.out _ (HR.out.below (Kp.bel ?_))).mono ?_; (go_split_ands; (exact Kp.auto)); rintro e w2 ⟨v2, rfl, ho2', hb2⟩; have hi2x := ho2'.hi; have lo2 := ho2'.lo; have ho2 := OW.more ho2' (Kp.size (w := w) (by go_split_ands; (exact Kp.auto))); try have hap := lo1.apart (Hi.mono ho2'.hi (by simp)); clear ho2')
        | ((with_reducible refine step_app (l := [k]) (m := told1 l) row_int (.slice (some ⟨w.heap.size, 0, none⟩) 1 1) ?_ (.tmp 22) (.tmp 27) ?_ ?_ ?_ ?_ HM1.out HM2.out (Kp.size (w := w) ?_) ?_); (with_reducible rfl); (with_reducible rfl); rfl; (focus ((repeat (first | (with_reducible assumption) | ((with_reducible refine OW.new1 ?_ ?_); (focus (first | rfl | (simp; done))); (focus (first | exact Nat.le_refl _ | (simp; done) | (refine Kp.size (w := w) ?_; (focus ((repeat (first | (with_reducible first | assumption | exact Kp.refl _ | apply Kp.drew | apply Kp.drewN) | ((with_reducible apply Kp.setR); (focus (first | (with_reducible assumption) | (simp; done) | (simp; omega)))) | (with_reducible apply Kp.alloc) | ((with_reducible apply Kp.call); (with_reducible assumption)) | ((with_reducible apply Kp.app); (with_reducible assumption)))); done)))))) | (with_reducible first | apply OW.alloc | apply OW.drew | apply OW.drewN) | ((with_reducible apply OW.belowR); (with_reducible assumption)))); done)); (show RD _ _ v1 _; refine OW.rd (B := w.heap.size) (e := 3) ?_; (exact OW.auto)); (go_split_ands; (exact Kp.auto)); intro v3 w3 ho3 hg3 hat3; have hi3 := ho3.hi; have s0 : w.heap.size <= w.heap.size := (by first | exact Nat.le_refl _ | (refine Kp.size (w := w) ?_; (exact Kp.auto))); have hlit : Hi w.heap.size (Value.slice (some ⟨w.heap.size, 0, none⟩) 1 1) := (fun k hk => by have e : w.heap.size = k := (by simpa [Value.ownBlock] using hk); omega))
        | ((with_reducible refine step_app (l := [k]) (m := told1 l) row_int (.slice (some ⟨w1.heap.size, 0, none⟩) 1 1) ?_ (.tmp 22) (.tmp 27) ?_ ?_ ?_ ?_ HM1.out HM2.out (Kp.size (w := w) ?_) ?_); (with_reducible rfl); (with_reducible rfl); rfl; (focus ((repeat (first | (with_reducible assumption) | ((with_reducible refine OW.new1 ?_ ?_); (focus (first | rfl | (simp; done))); (focus (first | exact Nat.le_refl _ | (simp; done) | (refine Kp.size (w := w) ?_; (focus ((repeat (first | (with_reducible first | assumption | exact Kp.refl _ | apply Kp.drew | apply Kp.drewN) | ((with_reducible apply Kp.setR); (focus (first | (with_reducible assumption) | (simp; done) | (simp; omega)))) | (with_reducible apply Kp.alloc) | ((with_reducible apply Kp.call); (with_reducible assumption)) | ((with_reducible apply Kp.app); (with_reducible assumption)))); done)))))) | (with_reducible first | apply OW.alloc | apply OW.drew | apply OW.drewN) | ((with_reducible apply OW.belowR); (with_reducible assumption)))); done)); (show RD _ _ v1 _; refine OW.rd (B := w.heap.size) (e := 3) ?_; (exact OW.auto)); (go_split_ands; (exact Kp.auto)); intro v3 w3 ho3 hg3 hat3; have hi3 := ho3.hi; have s0 : w.heap.size <= w1.heap.size := (by first | exact Nat.le_refl _ | (refine Kp.size (w := w) ?_; (exact Kp.auto))); have hlit : Hi w.heap.size (Value.slice (some ⟨w1.heap.size, 0, none⟩) 1 1) := (fun k hk => by have e : w1.heap.size = k := (by simpa [Value.ownBlock] using hk); omega))
        | ((with_reducible refine step_app (l := [k]) (m := told1 l) row_int (.slice (some ⟨w2.heap.size, 0, none⟩) 1 1) ?_ (.tmp 22) (.tmp 27) ?_ ?_ ?_ ?_ HM1.out HM2.out (Kp.size (w := w) ?_) ?_); (with_reducible rfl); (with_reducible rfl); rfl; (focus ((repeat (first | (with_reducible assumption) | ((with_reducible refine OW.new1 ?_ ?_); (focus (first | rfl | (simp; done))); (focus (first | exact Nat.le_refl _ | (simp; done) | (refine Kp.size (w := w) ?_; (focus ((repeat (first | (with_reducible first | assumption | exact Kp.refl _ | apply Kp.drew | apply Kp.drewN) | ((with_reducible apply Kp.setR); (focus (first | (with_reducible assumption) | (simp; done) | (simp; omega)))) | (with_reducible apply Kp.alloc) | ((with_reducible apply Kp.call); (with_reducible assumption)) | ((with_reducible apply Kp.app); (with_reducible assumption)))); done)))))) | (with_reducible first | apply OW.alloc | apply OW.drew | apply OW.drewN) | ((with_reducible apply OW.belowR); (with_reducible assumption)))); done)); (show RD _ _ v1 _; refine OW.rd (B := w.heap.size) (e := 3) ?_; (exact OW.auto)); (go_split_ands; (exact Kp.auto)); intro v3 w3 ho3 hg3 hat3; have hi3 := ho3.hi; have s0 : w.heap.size <= w2.heap.size := (by first | exact Nat.le_refl _ | (refine Kp.size (w := w) ?_; (exact Kp.auto))); have hlit : Hi w.heap.size (Value.slice (some ⟨w2.heap.size, 0, none⟩) 1 1) := (fun k hk => by have e : w2.heap.size = k := (by simpa [Value.ownBlock] using hk); omega))
        | ((with_reducible refine step_app (l := ([k] ++ told1 l)) (m := told1 r) row_int v3 ?_ (.tmp 28) (.tmp 33) ?_ ?_ ?_ ?_ HM3.out HM4.out (Kp.size (w := w) ?_) ?_); (with_reducible rfl); (with_reducible rfl); rfl; (exact OW.auto); (show RD _ _ v2 _; first | (refine OW.rd (B := w.heap.size) (e := 3) ?_; (exact OW.auto)) | ((with_reducible refine RD.grownR hg3 ?_ ?_); (focus (intro h; have a := lo2 _ h; have b := hi2x _ h; (try have s1 := hb1.size); (try have s2 := hb2.size); simp at a b; (try simp at s1); (try simp at s2); (try omega); done)); (refine OW.rd (B := w.heap.size) (e := 3) ?_; (exact OW.auto)))); (go_split_ands; (exact Kp.auto)); intro v4 w4 ho4 hg4 hat4))
    all_goals
      go_wp2
      go_ret
      exact ⟨_, rfl, ho4, Kp.bel (by (exact Kp.auto))⟩
section
variable {α : Type} (key : α -> Int)
def StabEq (s t : List α) : Prop := ∀ k, t.filter (fun x => key x == k) = s.filter (fun x => key x == k)
def SortedK (s : List α) : Prop := s.Pairwise fun a b => key a <= key b
end
section
variable {α : Type} {key : α -> Int} {s t u v p q : List α}
theorem StabEq.refl (s : List α) : StabEq key s s := fun _ => rfl
theorem StabEq.trans (h : StabEq key s t) (k : StabEq key t u) : StabEq key s u := fun x => (k x).trans (h x)
theorem StabEq.append (h : StabEq key s t) (k : StabEq key u v) : StabEq key (s ++ u) (t ++ v) := fun x => by
 rw [List.filter_append, List.filter_append, h x, k x]
theorem StabEq.mid (h : StabEq key s t) (p q : List α) : StabEq key (p ++ s ++ q) (p ++ t ++ q) := ((StabEq.refl p).append h).append (StabEq.refl q)
theorem StabEq.swap (h : ∀ a ∈ u, ∀ b ∈ v, key b < key a) : StabEq key (u ++ v) (v ++ u) := fun k => by
 rw [List.filter_append, List.filter_append]
 by_cases e : u.filter (fun x => key x == k) = []
 ·rw [e]; simp
 ·have e2 : v.filter (fun x => key x == k) = [] := by
   rw [List.filter_eq_nil_iff]
   intro b hb hc
   obtain ⟨a, ha⟩ := List.exists_mem_of_ne_nil _ e
   rw [List.mem_filter] at ha
   have h1 : key b = k := by simpa using hc
   have h2 : key a = k := by simpa using ha.2
   have := h a ha.1 b hb
   omega
  rw [e2]; simp
theorem StabEq.mem (h : StabEq key s t) (x : α) : x ∈ t ↔ x ∈ s := by
 have h1 : ∀ l : List α, x ∈ l ↔ x ∈ l.filter (fun y => key y == key x) := fun l => by
  rw [List.mem_filter]; simp
 rw [h1 t, h1 s, h (key x)]
theorem StabEq.cons_inv {a b : α} (h : StabEq key (a :: s) (b :: t)) (e : key a = key b) : a = b /\ StabEq key s t := by
 have h0 := h (key a)
 rw [List.filter_cons_of_pos (by rw [beq_iff_eq]; exact e.symm), List.filter_cons_of_pos (by simp)] at h0
 injection h0 with h1 h2
 refine ⟨h1.symm, fun k => ?_⟩
 have hk := h k
 subst h1
 by_cases e2 : key b = k
 ·rw [List.filter_cons_of_pos (by simp [e2]), List.filter_cons_of_pos (by simp [e2])] at hk
  injection hk
 ·rw [List.filter_cons_of_neg (by simp [e2]), List.filter_cons_of_neg (by simp [e2])] at hk
  exact hk
theorem stab_unique : ∀ {s t : List α}, SortedK key s -> SortedK key t -> StabEq key s t -> s = t
 | [], [], _, _, _ => rfl
 | [], b :: t, _, _, h => by
  have := (h.mem b).1 (by simp)
  cases this
 | a :: s, [], _, _, h => by
  have := (h.mem a).2 (by simp)
  cases this
 | a :: s, b :: t, hs, ht, h => by
  obtain ⟨h1, h2⟩ := List.pairwise_cons.1 hs
  obtain ⟨g1, g2⟩ := List.pairwise_cons.1 ht
  have e : key a = key b := by
   have m1 := (h.mem b).1 (by simp)
   have m2 := (h.mem a).2 (by simp)
   have l1 : key a <= key b := by
    rcases List.mem_cons.1 m1 with rfl | m
    ·exact Int.le_refl _
    ·exact h1 b m
   have l2 : key b <= key a := by
    rcases List.mem_cons.1 m2 with rfl | m
    ·exact Int.le_refl _
    ·exact g1 a m
   omega
  obtain ⟨rfl, h3⟩ := h.cons_inv e
  rw [stab_unique h2 g2 h3]
theorem SortedK.append (hu : SortedK key u) (hv : SortedK key v) (h : ∀ a ∈ u, ∀ b ∈ v, key a <= key b) : SortedK key (u ++ v) := List.pairwise_append.2 ⟨hu, hv, h⟩
end
abbrev pv (p : IP) : Value := .agg #[.int .i64 p.1, .int .i64 p.2]
end Go.Proofs.YtcljlnagpjilaaaGreatDoor
