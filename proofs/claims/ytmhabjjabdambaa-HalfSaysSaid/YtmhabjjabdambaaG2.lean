/-
  Ops and answers of a map as they lie in memory. Conditions: none.
  An argument that is a slice of pairs of ints, or of ints, opened to RD. Conditions: none. (open_slice_fields: a block of the guide's page extra-structs, which says to copy it.)
  Arguments opened to RD: what all frames of this seat share. Conditions: none.
  What a call leaves that writes one block of its caller's own (Kg). Conditions: none.
-/
import Derived.Test.YtmhabjjabdambaaG1
import Derived.Test.YtmhabjjabdambaaRows
import Derived.Lib.SmallJoins
import Derived.Deep.Slices
import Derived.Deep.Fields
import Derived.ChangeSame
import Derived.ChangeOld
import Derived.ShutString
import Derived.OpenShut

namespace Go.Proofs.Ytmhabjjabdambaa
open Go.ChangeShapes Go.WideShapes Go.ChangeAt Go.RowKit
set_option linter.unusedVariables false
set_option linter.unusedSimpArgs false

structure An where
  err : Int
  key : Int
  val : Int
  is : Bool
deriving DecidableEq
def An.v (a : An) : Value := .agg #[.int .i64 a.err, .int .i64 a.key, .int .i64 a.val, .bool a.is]
theorem An.v_inj {a b : An} (h : a.v = b.v) : a = b := by
  cases a; cases b; simp [An.v] at h; simp [h]
abbrev O3 := Int × Int × Int
def eAns : Enc An := ⟨4, fun a => [.int .i64 a.err, .int .i64 a.key, .int .i64 a.val, .bool a.is], fun _ => rfl, fun _ u h => by simp at h; rcases h with rfl | rfl | rfl | rfl <;> rfl⟩
def eOp : Enc O3 := ⟨3, fun o => [.int .i64 o.1, .int .i64 o.2.1, .int .i64 o.2.2], fun _ => rfl, fun _ u h => by simp at h; rcases h with rfl | rfl | rfl <;> rfl⟩
section
variable {w : World} {A : Option Addr} {n c : Nat}
theorem RD.op {l : List O3} (h : RD w eOp (.slice A n c) l) {k : Nat} (hk : k < l.length) :
    ∃ b o, A = some ⟨b, o, none⟩ ∧ b < w.heap.size ∧ w.cell? ⟨b, o + k * 3, none⟩ = some (.int .i64 l[k].1) ∧ w.cell? ⟨b, o + k * 3 + 1, none⟩ = some (.int .i64 l[k].2.1) ∧ w.cell? ⟨b, o + k * 3 + 2, none⟩ = some (.int .i64 l[k].2.2) := by
  obtain ⟨b, o, rfl, hb, hc⟩ := h.at_ hk
  exact ⟨b, o, rfl, hb, hc 0 (by decide), hc 1 (by decide), hc 2 (by decide)⟩
theorem RD.ans {l : List An} (h : RD w eAns (.slice A n c) l) {k : Nat} (hk : k < l.length) :
    ∃ b o, A = some ⟨b, o, none⟩ ∧ b < w.heap.size ∧ w.cell? ⟨b, o + k * 4, none⟩ = some (.int .i64 l[k].err) ∧ w.cell? ⟨b, o + k * 4 + 1, none⟩ = some (.int .i64 l[k].key) ∧ w.cell? ⟨b, o + k * 4 + 2, none⟩ = some (.int .i64 l[k].val) ∧ w.cell? ⟨b, o + k * 4 + 3, none⟩ = some (.bool l[k].is) := by
  obtain ⟨b, o, rfl, hb, hc⟩ := h.at_ hk
  exact ⟨b, o, rfl, hb, hc 0 (by decide), hc 1 (by decide), hc 2 (by decide), hc 3 (by decide)⟩
end
theorem info_ans : (Try.prog.info? 39).map (fun i => (i.zero, i.size, i.bytes)) = some (some (.agg #[.int .i64 0, .int .i64 0, .int .i64 0, .bool false]), 4, 32) := by kernel_rfl
theorem row_ans : Row Try.prog 26 39 eAns 32 := row_of info_ans Try.underlying26 rfl rfl (by decide)
/-! Boxes that hold an answer. -/
def BX (W : World) (a : Nat) (n : An) : Prop := W.cell? ⟨a, 0, none⟩ = some (.int .i64 n.err) ∧ W.cell? ⟨a, 1, none⟩ = some (.int .i64 n.key) ∧ W.cell? ⟨a, 2, none⟩ = some (.int .i64 n.val) ∧ W.cell? ⟨a, 3, none⟩ = some (.bool n.is)
theorem BX.kp {W W' : World} {a : Nat} {n : An} (h : BX W a n) (hk : Kp W W') : BX W' a n := ⟨hk.cell h.1, hk.cell h.2.1, hk.cell h.2.2.1, hk.cell h.2.2.2⟩
theorem BX.new (w : World) (a b c : Int) (d : Bool) (t : TypeId) : BX (w.alloc (.cells #[.int .i64 a, .int .i64 b, .int .i64 c, .bool d] t)) w.heap.size ⟨a, b, c, d⟩ := by simp [BX, go_sem]
def FZ (W : World) (a : Nat) : Prop := W.frozen? ⟨a, 0, none⟩ = false ∧ W.frozen? ⟨a, 1, none⟩ = false ∧ W.frozen? ⟨a, 2, none⟩ = false ∧ W.frozen? ⟨a, 3, none⟩ = false
theorem FZ.kp {W W' : World} {a : Nat} (h : FZ W a) (ha : a < W.heap.size) (hk : Kp W W') : FZ W' a := ⟨(hk.frozen (p := ⟨a, 0, none⟩) ha).trans h.1, (hk.frozen (p := ⟨a, 1, none⟩) ha).trans h.2.1, (hk.frozen (p := ⟨a, 2, none⟩) ha).trans h.2.2.1, (hk.frozen (p := ⟨a, 3, none⟩) ha).trans h.2.2.2⟩
theorem FZ.new (w : World) (cs : Array Value) (t : TypeId) : FZ (w.alloc (.cells cs t)) w.heap.size := by simp [FZ, go_sem]
theorem BX.lt {W : World} {a : Nat} {n : An} (h : BX W a n) : a < W.heap.size := World.block_lt_of_cell? _ _ h.1
theorem BX.set {W : World} {a : Nat} {n : An} (h : BX W a n) (e k v : Int) (i : Bool) : BX ((((W.setCell ⟨a, 0, none⟩ (.int .i64 e)).setCell ⟨a, 1, none⟩ (.int .i64 k)).setCell ⟨a, 2, none⟩ (.int .i64 v)).setCell ⟨a, 3, none⟩ (.bool i)) a ⟨e, k, v, i⟩ := by
  obtain ⟨h0, h1, h2, h3⟩ := h
  simp [BX, go_sem, h0, h1, h2, h3]
theorem FZ.set {W : World} {a : Nat} (h : FZ W a) (e k v : Int) (i : Bool) : FZ ((((W.setCell ⟨a, 0, none⟩ (.int .i64 e)).setCell ⟨a, 1, none⟩ (.int .i64 k)).setCell ⟨a, 2, none⟩ (.int .i64 v)).setCell ⟨a, 3, none⟩ (.bool i)) a := by
  obtain ⟨h0, h1, h2, h3⟩ := h
  simp [FZ, go_sem, h0, h1, h2, h3]

theorem Kp.callK {w W W' : World} (hb : Kp W W') (h : Kp w W) : Kp w W' := h.trans hb
end Go.Proofs.Ytmhabjjabdambaa
namespace Go.Proofs.Ytmhabjjabdambaa
open Go.ChangeShapes Go.WideShapes Go.ChangeAt Go.RowKit Go.Deep
set_option linter.unusedVariables false
set_option linter.unusedSimpArgs false

section
variable {H : Type} {enc : TypeId × Value → H} {P : Program} {w : World} {base : Nat} {spare : Nat → Bool} {held : Bool}
theorem open_slice_fields {t e : TypeId} {fs : Array Field} {fuel : Nat} {cs : List Value} {x : DataW H × List MemPlace} (ht : P.underlying t = some (.slice e)) (he : P.underlying e = some (.struct fs))
    (hone : oneCellFields P fs = true) (hC : P.cellsOf e = fs.size) (h : DataW.trod enc P w base spare held fuel t cs = some x) :
    (cs = [.slice none 0 0] ∧ x = (.nil, [])) ∨
    ∃ (a : Addr) (len cap m : Nat) (D : Nat → DataW H) (Pl : Nat → List MemPlace), cs = [.slice (some a) len cap] ∧ base ≤ a.block ∧ len ≤ cap ∧ cap ≤ maxLen ∧ m = (if spare a.block then cap else len) ∧
      x = (.slice ((List.range len).map D) ((List.range (m - len)).map fun j => D (len + j)), MemPlace.row a (m * fs.size) ++ (List.range m).flatMap Pl) ∧
      ∀ i, i < m → ∃ (ys : List (DataW H × List MemPlace)) (n : Nat), D i = .agg (ys.map (·.1)) ∧ Pl i = ys.flatMap (·.2) ∧ ys.length = fs.size ∧
        ∀ (j : Nat) (f : Field), fs[j]? = some f → ∃ (v : Value) (y : DataW H × List MemPlace), w.cell? (a.add (i * fs.size + j)) = some v ∧ ys[j]? = some y ∧ DataW.trod enc P w base spare held n f.type [v] = some y := by
  rcases open_slice ht h with h0 | ⟨a, len, cap, m, n, D, Pl, hcs, hb, hl, hm, hmm, hx, hi⟩
  · exact .inl h0
  · refine .inr ⟨a, len, cap, m, D, Pl, hcs, hb, hl, hm, hmm, by rw [hC] at hx; exact hx, fun i him => ?_⟩
    obtain ⟨cs', hc, ht'⟩ := hi i him
    rw [hC] at hc
    obtain ⟨ys, n', hn', hy, hlen, hyl, hf⟩ := DataW.trod_struct he ht'
    obtain ⟨_, hcl, hat⟩ := World.cells?_some hc
    simp only [Prod.mk.injEq] at hy
    refine ⟨ys, n', hy.1, hy.2, hyl, fun j f hj => ?_⟩
    obtain ⟨ho, hk⟩ := hone_of hone j f hj
    have hjl : j < fs.size := (Array.getElem?_eq_some_iff.1 hj).1
    have hcell := hat j hjl
    have hv : cs'[j]? = some (cs'[j]'(by omega)) := List.getElem?_eq_getElem (by omega)
    have h1 := hf j f hj
    rw [ho, hk] at h1
    have hone' : (cs'.drop j).take 1 = [cs'[j]'(by omega)] := by
      rw [List.drop_eq_getElem_cons (by omega)]
      rfl
    rw [hone'] at h1
    have hys : ys[j]? = some (ys[j]'(by omega)) := List.getElem?_eq_getElem (by omega)
    refine ⟨_, _, ?_, hys, h1.trans hys⟩
    rw [← Go.Deep.add_add, hcell, hv]
theorem rd_pairs {t e : TypeId} {f0 f1 : Field} {fuel : Nat} {cs : List Value} {x : DataW H × List MemPlace} (ht : P.underlying t = some (.slice e)) (he : P.underlying e = some (.struct #[f0, f1]))
    (hone : oneCellFields P #[f0, f1] = true) (hC : P.cellsOf e = 2) (h0 : P.underlying f0.type = some (.int .i64)) (h1 : P.underlying f1.type = some (.int .i64)) (h : DataW.trod enc P w base spare held fuel t cs = some x) :
    ∃ v, cs = [v] ∧ ∃ l : List IP, RD w ePair v l := by
  rcases open_slice_fields ht he hone hC h with ⟨rfl, _⟩ | ⟨a, len, cap, m, D, Pl, rfl, hb, hl, hm, hmm, _, hf⟩
  · exact ⟨_, rfl, [], RD.nil⟩
  · refine ⟨_, rfl, ?_⟩
    have hlm : len ≤ m := by rw [hmm]; split <;> omega
    have hq : ∀ i, ∃ p : IP, i < len → w.cell? (a.add (i * 2)) = some (.int .i64 p.1) ∧ w.cell? (a.add (i * 2 + 1)) = some (.int .i64 p.2) := by
      intro i
      by_cases hi : i < len
      · obtain ⟨ys, n, _, _, _, hj⟩ := hf i (by omega)
        obtain ⟨v, y, hc, _, hy⟩ := hj 0 f0 rfl
        obtain ⟨v', y', hc', _, hy'⟩ := hj 1 f1 rfl
        obtain ⟨n0, e0, _⟩ := DataW.trod_int h0 hy
        obtain ⟨n1, e1, _⟩ := DataW.trod_int h1 hy'
        injection e0 with e0
        injection e1 with e1
        subst e0 e1
        exact ⟨(n0, n1), fun _ => ⟨hc, hc'⟩⟩
      · exact ⟨(0, 0), fun h => absurd h hi⟩
    obtain ⟨f, hf2⟩ := Classical.axiomOfChoice hq
    refine ⟨(List.range len).map f, some a, cap, by simp, by simpa using hl, hm, (fun h => by cases h), fun hpos => ?_⟩
    simp only [List.length_map, List.length_range] at hpos
    obtain ⟨c0, _⟩ := hf2 0 hpos
    have ha0 : a.add (0 * 2) = a := by simp [Addr.add]
    rw [ha0] at c0
    obtain ⟨b, o, sp⟩ := a
    have hsp : sp = none := World.cell?_spot c0
    subst hsp
    refine ⟨b, o, rfl, World.block_lt_of_cell? w _ c0, fun k hk j hj => ?_⟩
    simp only [List.length_map, List.length_range] at hk
    obtain ⟨d0, d1⟩ := hf2 k hk
    have hadd : ∀ i, (⟨b, o, none⟩ : Addr).add i = ⟨b, o + i, none⟩ := fun i => by unfold Addr.add; split <;> simp_all
    rw [hadd] at d0 d1
    simp only [List.getElem_map, List.getElem_range]
    match j, hj with
    | 0, _ => exact d0
    | 1, _ => rw [← Nat.add_assoc] at d1; exact d1
theorem rd_ints {t e : TypeId} {fuel : Nat} {cs : List Value} {x : DataW H × List MemPlace} (ht : P.underlying t = some (.slice e)) (he : P.underlying e = some (.int .i64)) (hC : P.cellsOf e = 1)
    (h : DataW.trod enc P w base spare held fuel t cs = some x) : ∃ v, cs = [v] ∧ ∃ l : List Int, RD w eInt v l := by
  rcases open_ints ht he hC h with ⟨rfl, _⟩ | ⟨a, len, cap, zs, rfl, _, hl, hm, hz, _, hcell, _⟩
  · exact ⟨_, rfl, [], RD.nil⟩
  · have hz' : len ≤ zs.length := by have h : zs.length = if spare a.block = true then cap else len := by simpa using hz
                                     rw [h]; split <;> omega
    refine ⟨_, rfl, zs.take len, some a, cap, by simp; omega, by simp; omega, hm, (fun h => by cases h), fun hpos => ?_⟩
    simp at hpos
    have hzl : 0 < zs.length := by omega
    have c0 := hcell 0 hzl
    have ha0 : a.add 0 = a := by simp [Addr.add]
    rw [ha0] at c0
    obtain ⟨b, o, sp⟩ := a
    have hsp : sp = none := World.cell?_spot c0
    subst hsp
    refine ⟨b, o, rfl, World.block_lt_of_cell? w _ c0, fun k hk j hj => ?_⟩
    simp at hk
    have hadd : ∀ i, (⟨b, o, none⟩ : Addr).add i = ⟨b, o + i, none⟩ := fun i => by unfold Addr.add; split <;> simp_all
    have d0 := hcell k (by omega)
    rw [hadd] at d0
    match j, hj with
    | 0, _ =>
      simp only [eInt, Nat.mul_one, Nat.add_zero]
      rw [d0]
      simp [List.getD_eq_getElem?_getD, List.getElem?_eq_getElem (show k < zs.length by omega)]
theorem rd_triples {t e : TypeId} {f0 f1 f2 : Field} {fuel : Nat} {cs : List Value} {x : DataW H × List MemPlace} (ht : P.underlying t = some (.slice e)) (he : P.underlying e = some (.struct #[f0, f1, f2]))
    (hone : oneCellFields P #[f0, f1, f2] = true) (hC : P.cellsOf e = 3) (h0 : P.underlying f0.type = some (.int .i64)) (h1 : P.underlying f1.type = some (.int .i64)) (h2 : P.underlying f2.type = some (.int .i64)) (h : DataW.trod enc P w base spare held fuel t cs = some x) :
    ∃ v, cs = [v] ∧ ∃ l : List O3, RD w eOp v l := by
  rcases open_slice_fields ht he hone hC h with ⟨rfl, _⟩ | ⟨a, len, cap, m, D, Pl, rfl, hb, hl, hm, hmm, _, hf⟩
  · exact ⟨_, rfl, [], RD.nil⟩
  · refine ⟨_, rfl, ?_⟩
    have hlm : len ≤ m := by rw [hmm]; split <;> omega
    have hq : ∀ i, ∃ p : O3, i < len → w.cell? (a.add (i * 3)) = some (.int .i64 p.1) ∧ w.cell? (a.add (i * 3 + 1)) = some (.int .i64 p.2.1) ∧ w.cell? (a.add (i * 3 + 2)) = some (.int .i64 p.2.2) := by
      intro i
      by_cases hi : i < len
      · obtain ⟨ys, n, _, _, _, hj⟩ := hf i (by omega)
        obtain ⟨v, y, hc, _, hy⟩ := hj 0 f0 rfl
        obtain ⟨v', y', hc', _, hy'⟩ := hj 1 f1 rfl
        obtain ⟨v'', y'', hc'', _, hy''⟩ := hj 2 f2 rfl
        obtain ⟨n0, e0, _⟩ := DataW.trod_int h0 hy
        obtain ⟨n1, e1, _⟩ := DataW.trod_int h1 hy'
        obtain ⟨n2, e2, _⟩ := DataW.trod_int h2 hy''
        injection e0 with e0
        injection e1 with e1
        injection e2 with e2
        subst e0 e1 e2
        exact ⟨(n0, n1, n2), fun _ => ⟨hc, hc', hc''⟩⟩
      · exact ⟨(0, 0, 0), fun h => absurd h hi⟩
    obtain ⟨f, hf2⟩ := Classical.axiomOfChoice hq
    refine ⟨(List.range len).map f, some a, cap, by simp, by simpa using hl, hm, (fun h => by cases h), fun hpos => ?_⟩
    simp only [List.length_map, List.length_range] at hpos
    obtain ⟨c0, _⟩ := hf2 0 hpos
    have ha0 : a.add (0 * 3) = a := by simp [Addr.add]
    rw [ha0] at c0
    obtain ⟨b, o, sp⟩ := a
    have hsp : sp = none := World.cell?_spot c0
    subst hsp
    refine ⟨b, o, rfl, World.block_lt_of_cell? w _ c0, fun k hk j hj => ?_⟩
    simp only [List.length_map, List.length_range] at hk
    obtain ⟨d0, d1, d2⟩ := hf2 k hk
    have hadd : ∀ i, (⟨b, o, none⟩ : Addr).add i = ⟨b, o + i, none⟩ := fun i => by unfold Addr.add; split <;> simp_all
    rw [hadd] at d0 d1 d2
    simp only [List.getElem_map, List.getElem_range]
    match j, hj with
    | 0, _ => exact d0
    | 1, _ => rw [← Nat.add_assoc] at d1; exact d1
    | 2, _ => rw [← Nat.add_assoc] at d2; exact d2
theorem rd_triple {r : Reach} {b0 : Nat} {t : TypeId} {f0 f1 f2 : Field} {v : Value} {d : DataW H} {p : List MemPlace} (hs : P.underlying t = some (.struct #[f0, f1, f2])) (hone : oneCellFields P #[f0, f1, f2] = true) (hC : P.cellsOf t = 3)
    (h0 : P.underlying f0.type = some (.int .i64)) (h1 : P.underlying f1.type = some (.int .i64)) (h2 : P.underlying f2.type = some (.int .i64)) (hv : Value.okWide P w r b0 t v) (h : DataW.Trod enc P w base spare held t v d p) :
    ∃ a b c : Int, v = .agg #[.int .i64 a, .int .i64 b, .int .i64 c] := by
  obtain ⟨v0, v1, v2, y0, y1, y2, n, rfl, _, _, t0, t1, t2⟩ := Go.Joins.open_agg3 hs hone hC hv h
  obtain ⟨n0, e0, _⟩ := DataW.trod_int h0 t0
  obtain ⟨n1, e1, _⟩ := DataW.trod_int h1 t1
  obtain ⟨n2, e2, _⟩ := DataW.trod_int h2 t2
  injection e0 with e0
  injection e1 with e1
  injection e2 with e2
  subst e0 e1 e2
  exact ⟨_, _, _, rfl⟩
end
end Go.Proofs.Ytmhabjjabdambaa
namespace Go.Proofs.Ytmhabjjabdambaa
open Go.ChangeShapes Go.WideShapes Go.ChangeAt Go.RowKit Go.Deep
set_option linter.unusedVariables false
set_option linter.unusedSimpArgs false

set_option maxRecDepth 100000 in
theorem own : ownKnob Try.prog.godebug = none := by kernel_rfl
set_option maxRecDepth 100000 in
theorem laidOut : laidOutB Try.prog = true := by kernel_rfl
section
variable {H : Type} {enc : TypeId × Value → H} {w : World} {base : Nat} {spare : Nat → Bool} {held : Bool} {a0 : Option Addr} {n c : Nat} {d : DataW H} {p : List MemPlace}
set_option maxRecDepth 100000 in
theorem arg_pairs (h : DataW.Trod enc Try.prog w base spare held 48 (.slice a0 n c) d p) : ∃ l, RD w ePair (.slice a0 n c) l := by
  obtain ⟨fuel, hf⟩ := h
  obtain ⟨v, hv, l, hl⟩ := rd_pairs Try.underlying48 Try.underlying68 (by kernel_rfl) (by kernel_rfl) Try.underlying3 Try.underlying3 hf
  simp [Value.cells] at hv
  subst hv
  exact ⟨l, hl⟩
set_option maxRecDepth 100000 in
theorem arg_ints (h : DataW.Trod enc Try.prog w base spare held 22 (.slice a0 n c) d p) : ∃ l, RD w eInt (.slice a0 n c) l := by
  obtain ⟨fuel, hf⟩ := h
  obtain ⟨v, hv, l, hl⟩ := rd_ints Try.underlying22 Try.underlying3 (by kernel_rfl) hf
  simp [Value.cells] at hv
  subst hv
  exact ⟨l, hl⟩
set_option maxRecDepth 100000 in
theorem arg_ops (h : DataW.Trod enc Try.prog w base spare held 29 (.slice a0 n c) d p) : ∃ l, RD w eOp (.slice a0 n c) l := by
  obtain ⟨fuel, hf⟩ := h
  obtain ⟨v, hv, l, hl⟩ := rd_triples Try.underlying29 Try.underlying43 (by kernel_rfl) (by kernel_rfl) Try.underlying3 Try.underlying3 Try.underlying3 hf
  simp [Value.cells] at hv
  subst hv
  exact ⟨l, hl⟩
set_option maxRecDepth 100000 in
theorem arg_op {r : Reach} {b0 : Nat} {v : Value} (hv : Value.okWide Try.prog w r b0 43 v) (h : DataW.Trod enc Try.prog w base spare held 43 v d p) : ∃ x y z : Int, v = .agg #[.int .i64 x, .int .i64 y, .int .i64 z] :=
  rd_triple Try.underlying43 (by kernel_rfl) (by kernel_rfl) Try.underlying3 Try.underlying3 Try.underlying3 hv h
end
theorem wf_i64 {H : Type} {enc : TypeId × Value → H} {P : Program} {w : World} {base : Nat} {spare : Nat → Bool} {held : Bool} {t : TypeId} {n : Int} {m : Nat} {x : DataW H × List MemPlace} (ht : P.underlying t = some (.int .i64))
    (h : DataW.trod enc P w base spare held m t (Value.int .i64 n).cells.toList = some x) : -9223372036854775808 ≤ n ∧ n ≤ 9223372036854775807 := by
  obtain ⟨k, e, _, hw⟩ := DataW.trod_int ht h
  simp [Value.cells] at e
  subst e
  simp [Lit.wf, IntKind.min, IntKind.max, IntKind.bits, IntKind.signed] at hw
  omega
theorem and_true_of {a b : Bool} (ha : a = true) (hb : b = true) : (a && b) = true := by rw [ha, hb]; rfl
end Go.Proofs.Ytmhabjjabdambaa
namespace Go.Proofs.Ytmhabjjabdambaa
open Go.ChangeShapes Go.WideShapes Go.ChangeAt Go.RowKit
set_option linter.unusedVariables false
set_option linter.unusedSimpArgs false

/-! The block g may be written, all else stands. -/
def Kg (g : Nat) (w w' : World) : Prop := w.grownBy w' (some g)
theorem Kg.refl (g : Nat) (w : World) : Kg g w w := ⟨rfl, rfl, rfl, Nat.le_refl _, fun _ _ _ => rfl⟩
theorem Kg.size {g : Nat} {w w' : World} (h : Kg g w w') : w.heap.size ≤ w'.heap.size := World.grownBy.size h
theorem Kg.trans {g : Nat} {a b c : World} (h : Kg g a b) (k : Kg g b c) : Kg g a c := by
  obtain ⟨h1, h2, h3, h4, h5⟩ := h
  obtain ⟨k1, k2, k3, k4, k5⟩ := k
  exact ⟨k1.trans h1, k2.trans h2, k3.trans h3, Nat.le_trans h4 k4, fun i hi hn => (k5 i (Nat.lt_of_lt_of_le hi h4) hn).trans (h5 i hi hn)⟩
theorem Kg.of {g : Nat} {w w' : World} (h : Kp w w') : Kg g w w' := by
  obtain ⟨h1, h2, h3, h4, h5⟩ := h
  exact ⟨h1, h2, h3, h4, fun i hi _ => h5 i hi⟩
theorem Kg.drewN {g n : Nat} {w w' : World} (h : Kg g w w') : Kg g w (w'.drewN n) := h.trans (Kg.of (Kp.refl w').drewN)
theorem Kg.alloc {g : Nat} {w w' : World} {o : Obj} (h : Kg g w w') : Kg g w (w'.alloc o) := h.trans (Kg.of (Kp.refl w').alloc)
theorem Kg.set1 {g k : Nat} {w : World} {x : Value} : Kg g w (w.setCell ⟨g, k, none⟩ x) :=
  ⟨rfl, rfl, rfl, by simp [World.setCell], fun i hi hn => Below.heap_setCell _ _ _ _ (by rintro rfl; exact hn rfl)⟩
theorem Kg.set {g k : Nat} {w w' : World} {x : Value} (h : Kg g w w') : Kg g w (w'.setCell ⟨g, k, none⟩ x) := h.trans Kg.set1
theorem Kg.kp {g : Nat} {w0 w w' : World} (h : Kg g w w') (h0 : Kp w0 w) (hg : w0.heap.size ≤ g) : Kp w0 w' := Below.grown h0 h h0.size (fun k hk => by injection hk with hk; omega)
theorem Kg.block {g : Nat} {w w' : World} (h : Kg g w w') {i : Nat} (hi : i < w.heap.size) (hn : i ≠ g) : w'.heap[i]? = w.heap[i]? := World.grownBy.block h i hi (fun e => hn (by injection e))
theorem RD.kg {α : Type} {g : Nat} {w w' : World} {E : Enc α} {v : Value} {l : List α} (h : RD w E v l) (hv : 0 < l.length → v.ownBlock ≠ some g) (hk : Kg g w w') : RD w' E v l := by
  obtain ⟨A, c, rfl, h1, h2, hn, h3⟩ := h
  refine ⟨A, c, rfl, h1, h2, hn, fun h0 => ?_⟩
  obtain ⟨b, o, rfl, hb, hc⟩ := h3 h0
  refine ⟨b, o, rfl, Nat.lt_of_lt_of_le hb hk.size, fun k hk' j hj => ?_⟩
  rw [← hc k hk' j hj]
  have hbg : b ≠ g := fun e => hv h0 (by rw [e]; rfl)
  have := hk.block hb hbg
  exact World.cell?_of_block this
theorem AR.kg {α : Type} {g i : Nat} {w w' : World} {E : Enc α} {e : TypeId} {l : List α} (h : AR w i e E l) (hi : i ≠ g) (hk : Kg g w w') : AR w' i e E l := (hk.block h.lt hi).trans h

end Go.Proofs.Ytmhabjjabdambaa
