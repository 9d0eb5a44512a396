/-
  An argument that is a slice of pairs of ints, or of ints, opened to RD. Conditions: none. (open_slice_fields: a block of the guide's page extra-structs, which says to copy it.)
  Arguments opened to RD: what all frames of this seat share. Conditions: none.
  skip.Height: what it answers. Conditions: the table of math/bits holds what it is laid with (DTb).
  The frame of a law whose row lists the table of math/bits: what the condition gives a walk (DTb); a world that meets it. Conditions: none.
  What a call leaves that writes one block of its caller's own (Kg). Conditions: none.
  Trees that are written (MT): nodes in blocks of their own, with a list of these blocks; a way down to a link that holds a subtree (ZP); what a call leaves that writes some blocks only (Kf); a variable that holds a slice (OB). Conditions: none.
-/
import Derived.Test.YtpkkajglbklboaaDoorRows
import Derived.Test.YtpkkajglbklboaaDoorG1
import Derived.Lib.SmallJoins
import Derived.Deep.Slices
import Derived.Deep.Fields
import Derived.ChangeSame
import Derived.ChangeOld
import Derived.ShutString
import Derived.OpenShut
import Derived.Lib.LaidTab
import Derived.LaidHandle
import Derived.LaidLaws

namespace Go.Proofs.YtpkkajglbklboaaDoor
open Go.ChangeShapes Go.WideShapes Go.ChangeAt Go.RowKit Go.Deep
set_option linter.unusedVariables false
set_option linter.unusedSimpArgs false

section
variable {H : Type} {enc : TypeId × Value → H} {P : Program} {w : World} {base : Nat} {spare : Nat → Bool} {held : Bool}
theorem open_slice_fields {t e : TypeId} {fs : Array Field} {fuel : Nat} {cs : List Value} {x : DataW H × List MemPlace} (ht : P.underlying t = some (.slice e)) (he : P.underlying e = some (.struct fs))
    (hone : oneCellFields P fs = true) (hC : P.cellsOf e = fs.size) (h : DataW.trod enc P w base spare held fuel t cs = some x) :
    (cs = [.slice none 0 0] ∧ x = (.nil, [])) ∨
    ∃ (a : Addr) (len cap m : Nat) (D : Nat → DataW H) (Pl : Nat → List MemPlace), cs = [.slice (some a) len cap] ∧ base ≤ a.block ∧ len ≤ cap ∧ cap ≤ maxLen ∧ m = (if spare a.block then cap else len) ∧
      x = (.slice ((List.range len).map D) ((List.range (m - len)).map fun j => D (len + j)), MemPlace.row a (m * fs.size) ++ (List.range m).flatMap Pl) ∧
      ∀ i, i < m → ∃ (ys : List (DataW H × List MemPlace)) (n : Nat), D i = .agg (ys.map (·.1)) ∧ Pl i = ys.flatMap (·.2) ∧ ys.length = fs.size ∧
        ∀ (j : Nat) (f : Field), fs[j]? = some f → ∃ (v : Value) (y : DataW H × List MemPlace), w.cell? (a.add (i * fs.size + j)) = some v ∧ ys[j]? = some y ∧ DataW.trod enc P w base spare held n f.type [v] = some y := by
  rcases open_slice ht h with h0 | ⟨a, len, cap, m, n, D, Pl, hcs, hb, hl, hm, hmm, hx, hi⟩
  · exact .inl h0
  · refine .inr ⟨a, len, cap, m, D, Pl, hcs, hb, hl, hm, hmm, by rw [hC] at hx; exact hx, fun i him => ?_⟩
    obtain ⟨cs', hc, ht'⟩ := hi i him
    rw [hC] at hc
    obtain ⟨ys, n', hn', hy, hlen, hyl, hf⟩ := DataW.trod_struct he ht'
    obtain ⟨_, hcl, hat⟩ := World.cells?_some hc
    simp only [Prod.mk.injEq] at hy
    refine ⟨ys, n', hy.1, hy.2, hyl, fun j f hj => ?_⟩
    obtain ⟨ho, hk⟩ := hone_of hone j f hj
    have hjl : j < fs.size := (Array.getElem?_eq_some_iff.1 hj).1
    have hcell := hat j hjl
    have hv : cs'[j]? = some (cs'[j]'(by omega)) := List.getElem?_eq_getElem (by omega)
    have h1 := hf j f hj
    rw [ho, hk] at h1
    have hone' : (cs'.drop j).take 1 = [cs'[j]'(by omega)] := by
      rw [List.drop_eq_getElem_cons (by omega)]
      rfl
    rw [hone'] at h1
    have hys : ys[j]? = some (ys[j]'(by omega)) := List.getElem?_eq_getElem (by omega)
    refine ⟨_, _, ?_, hys, h1.trans hys⟩
    rw [← Go.Deep.add_add, hcell, hv]
theorem rd_pairs {t e : TypeId} {f0 f1 : Field} {fuel : Nat} {cs : List Value} {x : DataW H × List MemPlace} (ht : P.underlying t = some (.slice e)) (he : P.underlying e = some (.struct #[f0, f1]))
    (hone : oneCellFields P #[f0, f1] = true) (hC : P.cellsOf e = 2) (h0 : P.underlying f0.type = some (.int .i64)) (h1 : P.underlying f1.type = some (.int .i64)) (h : DataW.trod enc P w base spare held fuel t cs = some x) :
    ∃ v, cs = [v] ∧ ∃ l : List IP, RD w ePair v l := by
  rcases open_slice_fields ht he hone hC h with ⟨rfl, _⟩ | ⟨a, len, cap, m, D, Pl, rfl, hb, hl, hm, hmm, _, hf⟩
  · exact ⟨_, rfl, [], RD.nil⟩
  · refine ⟨_, rfl, ?_⟩
    have hlm : len ≤ m := by rw [hmm]; split <;> omega
    have hq : ∀ i, ∃ p : IP, i < len → w.cell? (a.add (i * 2)) = some (.int .i64 p.1) ∧ w.cell? (a.add (i * 2 + 1)) = some (.int .i64 p.2) := by
      intro i
      by_cases hi : i < len
      · obtain ⟨ys, n, _, _, _, hj⟩ := hf i (by omega)
        obtain ⟨v, y, hc, _, hy⟩ := hj 0 f0 rfl
        obtain ⟨v', y', hc', _, hy'⟩ := hj 1 f1 rfl
        obtain ⟨n0, e0, _⟩ := DataW.trod_int h0 hy
        obtain ⟨n1, e1, _⟩ := DataW.trod_int h1 hy'
        injection e0 with e0
        injection e1 with e1
        subst e0 e1
        exact ⟨(n0, n1), fun _ => ⟨hc, hc'⟩⟩
      · exact ⟨(0, 0), fun h => absurd h hi⟩
    obtain ⟨f, hf2⟩ := Classical.axiomOfChoice hq
    refine ⟨(List.range len).map f, some a, cap, by simp, by simpa using hl, hm, (fun h => by cases h), fun hpos => ?_⟩
    simp only [List.length_map, List.length_range] at hpos
    obtain ⟨c0, _⟩ := hf2 0 hpos
    have ha0 : a.add (0 * 2) = a := by simp [Addr.add]
    rw [ha0] at c0
    obtain ⟨b, o, sp⟩ := a
    have hsp : sp = none := World.cell?_spot c0
    subst hsp
    refine ⟨b, o, rfl, World.block_lt_of_cell? w _ c0, fun k hk j hj => ?_⟩
    simp only [List.length_map, List.length_range] at hk
    obtain ⟨d0, d1⟩ := hf2 k hk
    have hadd : ∀ i, (⟨b, o, none⟩ : Addr).add i = ⟨b, o + i, none⟩ := fun i => by unfold Addr.add; split <;> simp_all
    rw [hadd] at d0 d1
    simp only [List.getElem_map, List.getElem_range]
    match j, hj with
    | 0, _ => exact d0
    | 1, _ => rw [← Nat.add_assoc] at d1; exact d1
theorem rd_ints {t e : TypeId} {fuel : Nat} {cs : List Value} {x : DataW H × List MemPlace} (ht : P.underlying t = some (.slice e)) (he : P.underlying e = some (.int .i64)) (hC : P.cellsOf e = 1)
    (h : DataW.trod enc P w base spare held fuel t cs = some x) : ∃ v, cs = [v] ∧ ∃ l : List Int, RD w eInt v l := by
  rcases open_ints ht he hC h with ⟨rfl, _⟩ | ⟨a, len, cap, zs, rfl, _, hl, hm, hz, _, hcell, _⟩
  · exact ⟨_, rfl, [], RD.nil⟩
  · have hz' : len ≤ zs.length := by have h : zs.length = if spare a.block = true then cap else len := by simpa using hz
                                     rw [h]; split <;> omega
    refine ⟨_, rfl, zs.take len, some a, cap, by simp; omega, by simp; omega, hm, (fun h => by cases h), fun hpos => ?_⟩
    simp at hpos
    have hzl : 0 < zs.length := by omega
    have c0 := hcell 0 hzl
    have ha0 : a.add 0 = a := by simp [Addr.add]
    rw [ha0] at c0
    obtain ⟨b, o, sp⟩ := a
    have hsp : sp = none := World.cell?_spot c0
    subst hsp
    refine ⟨b, o, rfl, World.block_lt_of_cell? w _ c0, fun k hk j hj => ?_⟩
    simp at hk
    have hadd : ∀ i, (⟨b, o, none⟩ : Addr).add i = ⟨b, o + i, none⟩ := fun i => by unfold Addr.add; split <;> simp_all
    have d0 := hcell k (by omega)
    rw [hadd] at d0
    match j, hj with
    | 0, _ =>
      simp only [eInt, Nat.mul_one, Nat.add_zero]
      rw [d0]
      simp [List.getD_eq_getElem?_getD, List.getElem?_eq_getElem (show k < zs.length by omega)]
theorem rd_triples {t e : TypeId} {f0 f1 f2 : Field} {fuel : Nat} {cs : List Value} {x : DataW H × List MemPlace} (ht : P.underlying t = some (.slice e)) (he : P.underlying e = some (.struct #[f0, f1, f2]))
    (hone : oneCellFields P #[f0, f1, f2] = true) (hC : P.cellsOf e = 3) (h0 : P.underlying f0.type = some (.int .i64)) (h1 : P.underlying f1.type = some (.int .i64)) (h2 : P.underlying f2.type = some (.int .i64)) (h : DataW.trod enc P w base spare held fuel t cs = some x) :
    ∃ v, cs = [v] ∧ ∃ l : List O3, RD w eOp v l := by
  rcases open_slice_fields ht he hone hC h with ⟨rfl, _⟩ | ⟨a, len, cap, m, D, Pl, rfl, hb, hl, hm, hmm, _, hf⟩
  · exact ⟨_, rfl, [], RD.nil⟩
  · refine ⟨_, rfl, ?_⟩
    have hlm : len ≤ m := by rw [hmm]; split <;> omega
    have hq : ∀ i, ∃ p : O3, i < len → w.cell? (a.add (i * 3)) = some (.int .i64 p.1) ∧ w.cell? (a.add (i * 3 + 1)) = some (.int .i64 p.2.1) ∧ w.cell? (a.add (i * 3 + 2)) = some (.int .i64 p.2.2) := by
      intro i
      by_cases hi : i < len
      · obtain ⟨ys, n, _, _, _, hj⟩ := hf i (by omega)
        obtain ⟨v, y, hc, _, hy⟩ := hj 0 f0 rfl
        obtain ⟨v', y', hc', _, hy'⟩ := hj 1 f1 rfl
        obtain ⟨v'', y'', hc'', _, hy''⟩ := hj 2 f2 rfl
        obtain ⟨n0, e0, _⟩ := DataW.trod_int h0 hy
        obtain ⟨n1, e1, _⟩ := DataW.trod_int h1 hy'
        obtain ⟨n2, e2, _⟩ := DataW.trod_int h2 hy''
        injection e0 with e0
        injection e1 with e1
        injection e2 with e2
        subst e0 e1 e2
        exact ⟨(n0, n1, n2), fun _ => ⟨hc, hc', hc''⟩⟩
      · exact ⟨(0, 0, 0), fun h => absurd h hi⟩
    obtain ⟨f, hf2⟩ := Classical.axiomOfChoice hq
    refine ⟨(List.range len).map f, some a, cap, by simp, by simpa using hl, hm, (fun h => by cases h), fun hpos => ?_⟩
    simp only [List.length_map, List.length_range] at hpos
    obtain ⟨c0, _⟩ := hf2 0 hpos
    have ha0 : a.add (0 * 3) = a := by simp [Addr.add]
    rw [ha0] at c0
    obtain ⟨b, o, sp⟩ := a
    have hsp : sp = none := World.cell?_spot c0
    subst hsp
    refine ⟨b, o, rfl, World.block_lt_of_cell? w _ c0, fun k hk j hj => ?_⟩
    simp only [List.length_map, List.length_range] at hk
    obtain ⟨d0, d1, d2⟩ := hf2 k hk
    have hadd : ∀ i, (⟨b, o, none⟩ : Addr).add i = ⟨b, o + i, none⟩ := fun i => by unfold Addr.add; split <;> simp_all
    rw [hadd] at d0 d1 d2
    simp only [List.getElem_map, List.getElem_range]
    match j, hj with
    | 0, _ => exact d0
    | 1, _ => rw [← Nat.add_assoc] at d1; exact d1
    | 2, _ => rw [← Nat.add_assoc] at d2; exact d2
theorem rd_triple {r : Reach} {b0 : Nat} {t : TypeId} {f0 f1 f2 : Field} {v : Value} {d : DataW H} {p : List MemPlace} (hs : P.underlying t = some (.struct #[f0, f1, f2])) (hone : oneCellFields P #[f0, f1, f2] = true) (hC : P.cellsOf t = 3)
    (h0 : P.underlying f0.type = some (.int .i64)) (h1 : P.underlying f1.type = some (.int .i64)) (h2 : P.underlying f2.type = some (.int .i64)) (hv : Value.okWide P w r b0 t v) (h : DataW.Trod enc P w base spare held t v d p) :
    ∃ a b c : Int, v = .agg #[.int .i64 a, .int .i64 b, .int .i64 c] := by
  obtain ⟨v0, v1, v2, y0, y1, y2, n, rfl, _, _, t0, t1, t2⟩ := Go.Joins.open_agg3 hs hone hC hv h
  obtain ⟨n0, e0, _⟩ := DataW.trod_int h0 t0
  obtain ⟨n1, e1, _⟩ := DataW.trod_int h1 t1
  obtain ⟨n2, e2, _⟩ := DataW.trod_int h2 t2
  injection e0 with e0
  injection e1 with e1
  injection e2 with e2
  subst e0 e1 e2
  exact ⟨_, _, _, rfl⟩
end
end Go.Proofs.YtpkkajglbklboaaDoor
namespace Go.Proofs.YtpkkajglbklboaaDoor
open Go.ChangeShapes Go.WideShapes Go.ChangeAt Go.RowKit Go.Deep
set_option linter.unusedVariables false
set_option linter.unusedSimpArgs false

set_option maxRecDepth 100000 in
theorem own : ownKnob Tryd.prog.godebug = none := by kernel_rfl
set_option maxRecDepth 100000 in
theorem laidOut : laidOutB Tryd.prog = true := by kernel_rfl
section
variable {H : Type} {enc : TypeId × Value → H} {w : World} {base : Nat} {spare : Nat → Bool} {held : Bool} {a0 : Option Addr} {n c : Nat} {d : DataW H} {p : List MemPlace}
set_option maxRecDepth 100000 in
theorem arg_pairs (h : DataW.Trod enc Tryd.prog w base spare held 46 (.slice a0 n c) d p) : ∃ l, RD w ePair (.slice a0 n c) l := by
  obtain ⟨fuel, hf⟩ := h
  obtain ⟨v, hv, l, hl⟩ := rd_pairs Tryd.underlying46 Tryd.underlying89 (by kernel_rfl) (by kernel_rfl) Tryd.underlying3 Tryd.underlying3 hf
  simp [Value.cells] at hv
  subst hv
  exact ⟨l, hl⟩
set_option maxRecDepth 100000 in
theorem arg_spots (h : DataW.Trod enc Tryd.prog w base spare held 23 (.slice a0 n c) d p) : ∃ l, RD w ePair (.slice a0 n c) l := by
  obtain ⟨fuel, hf⟩ := h
  obtain ⟨v, hv, l, hl⟩ := rd_pairs Tryd.underlying23 Tryd.underlying70 (by kernel_rfl) (by kernel_rfl) Tryd.underlying3 Tryd.underlying3 hf
  simp [Value.cells] at hv
  subst hv
  exact ⟨l, hl⟩
set_option maxRecDepth 100000 in
theorem arg_ints (h : DataW.Trod enc Tryd.prog w base spare held 36 (.slice a0 n c) d p) : ∃ l, RD w eInt (.slice a0 n c) l := by
  obtain ⟨fuel, hf⟩ := h
  obtain ⟨v, hv, l, hl⟩ := rd_ints Tryd.underlying36 Tryd.underlying3 (by kernel_rfl) hf
  simp [Value.cells] at hv
  subst hv
  exact ⟨l, hl⟩
set_option maxRecDepth 100000 in
theorem arg_ops (h : DataW.Trod enc Tryd.prog w base spare held 22 (.slice a0 n c) d p) : ∃ l, RD w eOp (.slice a0 n c) l := by
  obtain ⟨fuel, hf⟩ := h
  obtain ⟨v, hv, l, hl⟩ := rd_triples Tryd.underlying22 Tryd.underlying30 (by kernel_rfl) (by kernel_rfl) Tryd.underlying3 Tryd.underlying3 Tryd.underlying3 hf
  simp [Value.cells] at hv
  subst hv
  exact ⟨l, hl⟩
set_option maxRecDepth 100000 in
theorem arg_op {r : Reach} {b0 : Nat} {v : Value} (hv : Value.okWide Tryd.prog w r b0 30 v) (h : DataW.Trod enc Tryd.prog w base spare held 30 v d p) : ∃ x y z : Int, v = .agg #[.int .i64 x, .int .i64 y, .int .i64 z] :=
  rd_triple Tryd.underlying30 (by kernel_rfl) (by kernel_rfl) Tryd.underlying3 Tryd.underlying3 Tryd.underlying3 hv h
end
theorem wf_i64 {H : Type} {enc : TypeId × Value → H} {P : Program} {w : World} {base : Nat} {spare : Nat → Bool} {held : Bool} {t : TypeId} {n : Int} {m : Nat} {x : DataW H × List MemPlace} (ht : P.underlying t = some (.int .i64))
    (h : DataW.trod enc P w base spare held m t (Value.int .i64 n).cells.toList = some x) : -9223372036854775808 ≤ n ∧ n ≤ 9223372036854775807 := by
  obtain ⟨k, e, _, hw⟩ := DataW.trod_int ht h
  simp [Value.cells] at e
  subst e
  simp [Lit.wf, IntKind.min, IntKind.max, IntKind.bits, IntKind.signed] at hw
  omega
theorem and_true_of {a b : Bool} (ha : a = true) (hb : b = true) : (a && b) = true := by rw [ha, hb]; rfl
end Go.Proofs.YtpkkajglbklboaaDoor
namespace Go.Proofs.YtpkkajglbklboaaDoor
open Go.ChangeShapes Go.WideShapes Go.ChangeAt Go.RowKit
set_option linter.unusedVariables false
set_option linter.unusedSimpArgs false

def dbTab : List Int := [0, 1, 56, 2, 57, 49, 28, 3, 61, 58, 42, 50, 38, 29, 17, 4, 62, 47, 59, 36, 45, 43, 51, 22, 53, 39, 33, 30, 24, 18, 12, 5, 63, 55, 48, 27, 60, 41, 37, 16, 46, 35, 44, 21, 52, 32, 23, 11, 54, 26, 40, 15, 34, 20, 31, 10, 25, 14, 19, 9, 13, 8, 7, 6]
/-- The table of math/bits lies in the first block. -/
def DTb (w : World) : Prop := ∀ i : Nat, i < 64 → w.cell? ⟨0, i, none⟩ = some (.int .u8 (dbTab.getD i 0))
theorem DTb.kp {w w' : World} (h : DTb w) (hk : Kp w w') : DTb w' := fun i hi => hk.cell (h i hi)
def x1 (x : Int) : Int := bits .xor .u64 x (x / 1073741824)
def x2 (x : Int) : Int := IntKind.u64.wrap (x1 x * 13787848793156543929)
def x3 (x : Int) : Int := bits .xor .u64 (x2 x) (x2 x / 134217728)
def x4 (x : Int) : Int := IntKind.u64.wrap (x3 x * 10723151780598845931)
def mixF (x : Int) : Int := bits .xor .u64 (x4 x) (x4 x / 2147483648)
set_option maxRecDepth 100000 in
theorem mixed_any (x : Int) (w : World) : Calls Tryd.prog 83 #[.int .u64 x] w fun e w' => e = .returned (.int .u64 (mixF x)) ∧ w = w' := by
  go_enter Tryd.func83, Tryd.ntmps83
  go_wp2
  go_ret
  exact ⟨rfl, rfl⟩
def tzI (x : Int) : Int := IntKind.u64.wrap (bits .and .u64 x (IntKind.u64.wrap (-x)) * 285870213051353865) / 288230376151711744
def tzF (x : Int) : Int := if x = 0 then 64 else dbTab.getD (tzI x).toNat 0
theorem dbTab_in : ∀ i, 0 ≤ dbTab.getD i 0 ∧ dbTab.getD i 0 ≤ 63 := by
  intro i
  by_cases h : i < 64
  · have : ∀ i : Fin 64, 0 ≤ dbTab.getD i.val 0 ∧ dbTab.getD i.val 0 ≤ 63 := by decide
    exact this ⟨i, h⟩
  · rw [List.getD_eq_getElem?_getD, List.getElem?_eq_none (by simp [dbTab]; omega)]; decide
theorem tzI_in (x : Int) : 0 ≤ tzI x ∧ tzI x < 64 := by
  unfold tzI
  obtain ⟨y, hy⟩ : ∃ y, y = IntKind.u64.wrap (bits .and .u64 x (IntKind.u64.wrap (-x)) * 285870213051353865) := ⟨_, rfl⟩
  rw [← hy]
  have : 0 ≤ y ∧ y < 18446744073709551616 := by
    rw [hy]
    simp only [IntKind.wrap, IntKind.signed, IntKind.bits]
    simp
    omega
  omega
theorem tzF_in (x : Int) : 0 ≤ tzF x ∧ tzF x ≤ 64 := by
  unfold tzF
  split
  · omega
  · have := dbTab_in (tzI x).toNat; omega
set_option maxRecDepth 100000 in
theorem tz_any (x : Int) (w : World) (h : DTb w) : Calls Tryd.prog 82 #[.int .u64 x] w fun e w' => e = .returned (.int .i64 (tzF x)) ∧ w = w' := by
  by_cases h0 : x = 0
  · subst h0
    go_enter Tryd.func82, Tryd.ntmps82
    go_wp2
    go_ret
    exact ⟨rfl, rfl⟩
  · have H1 : Hid (tzF x = dbTab.getD (tzI x).toNat 0) := hide (by rw [tzF, if_neg h0])
    obtain ⟨p, hp⟩ : ∃ p, IntKind.u64.wrap (bits .and .u64 x (IntKind.u64.wrap (-x)) * 285870213051353865) = p := ⟨_, rfl⟩
    obtain ⟨g1, g2⟩ := tzI_in x
    obtain ⟨j, hj⟩ : ∃ j : Nat, tzI x = (j : Int) := ⟨(tzI x).toNat, by omega⟩
    have hq : p / 288230376151711744 = (j : Int) := by rw [← hj, tzI, hp]
    have hj64 : (j : Int) < 64 := by omega
    have hj0 : (0 : Int) ≤ (j : Int) := by omega
    have c0 := h j (by omega)
    have H2 : Hid (tzF x = dbTab.getD j 0) := hide (by rw [H1.out, hj]; rfl)
    have hd := dbTab_in j
    obtain ⟨y, hy⟩ : ∃ y, dbTab.getD j 0 = y := ⟨_, rfl⟩
    rw [hy] at c0 H2 hd
    obtain ⟨d1, d2⟩ := hd
    have b0 : (x == 0) = false := by simpa using h0
    clear g1 g2 hj hy h
    go_enter Tryd.func82, Tryd.ntmps82
    go_wp2
    go_ret
    exact ⟨by rw [H2.out]; rfl, rfl⟩
def hgtF (key : Int) : Int := if 12 < tzF (mixF (IntKind.u64.wrap key)) + 1 then 12 else tzF (mixF (IntKind.u64.wrap key)) + 1
theorem hgtF_in (key : Int) : 1 ≤ hgtF key ∧ hgtF key ≤ 12 := by
  have := tzF_in (mixF (IntKind.u64.wrap key))
  unfold hgtF
  split <;> omega
set_option maxRecDepth 100000 in
theorem height_any (key : Int) (w : World) (h : DTb w) : Calls Tryd.prog 77 #[.int .i64 key] w fun e w' => e = .returned (.int .i64 (hgtF key)) ∧ w = w' := by
  obtain ⟨q, hq⟩ : ∃ q, IntKind.u64.wrap key = q := ⟨_, rfl⟩
  have H1 : Hid (hgtF key = if 12 < tzF (mixF q) + 1 then 12 else tzF (mixF q) + 1) := hide (by rw [hgtF, hq])
  have HM := hide (fun W => mixed_any q W)
  obtain ⟨m, hm⟩ : ∃ m, m = mixF q := ⟨_, rfl⟩
  rw [← hm] at HM H1
  have HT := hide (fun W h => tz_any m W h)
  obtain ⟨g1, g2⟩ := tzF_in m
  obtain ⟨t, ht⟩ : ∃ t, t = tzF m := ⟨_, rfl⟩
  rw [← ht] at HT H1 g1 g2
  obtain ⟨M, hM⟩ : ∃ M, (if (12 : Int) < t + 1 then (12 : Int) else t + 1) = M := ⟨_, rfl⟩
  rw [hM] at H1
  have HD := hide h
  clear h hm ht
  go_enter Tryd.func77, Tryd.ntmps77
  go_wp2_with fail
  with_reducible refine (HM.out _).mono ?_
  rintro e w1 ⟨rfl, rfl⟩
  go_wp2_with fail
  with_reducible refine (HT.out _ HD.out).mono ?_
  rintro e w1 ⟨rfl, rfl⟩
  go_wp2
  go_ret
  exact ⟨by rw [H1.out]; rfl, rfl⟩
end Go.Proofs.YtpkkajglbklboaaDoor
namespace Go.Proofs.YtpkkajglbklboaaDoor
open Go.ChangeShapes Go.WideShapes Go.ChangeAt Go.RowKit Go.Deep
set_option linter.unusedVariables false
set_option linter.unusedSimpArgs false

def ZLaid : List (String × DataW Unit) := [("math/bits.deBruijn64tab", Rows.laid_math_bits_deBruijn64tab)]
set_option maxRecDepth 100000 in
theorem gTab : Tryd.prog.globalNamed "math/bits.deBruijn64tab" = some 0 := by kernel_rfl
set_option maxRecDepth 100000 in
theorem gTabType : (Tryd.prog.globals[0]?).map (·.type) = some 147 := by kernel_rfl
set_option maxRecDepth 100000 in
theorem cellsTab : Tryd.prog.cellsOf 147 = 64 := by kernel_rfl
set_option maxRecDepth 100000 in
theorem cellsU8 : Tryd.prog.cellsOf 5 = 1 := by kernel_rfl
set_option maxRecDepth 100000 in
theorem db_of_laid {W : World} (h : laidMetH Tryd.prog ZLaid W) : DTb W := by
  have h1 : laidMet Tryd.prog [("math/bits.deBruijn64tab", Lib.tabData .u8 dbTab)] W := h
  have hT := Lib.tabIs_of_head gTab gTabType Tryd.underlying147 Tryd.underlying5 cellsU8 cellsTab h1
  intro i hi
  exact hT.cell gTab i (by simpa [dbTab] using hi)
noncomputable def laidWorldZ (os : Os) : World :=
  { World.holding Tryd.prog os ⟨#[], #[], []⟩ with heap := (World.holding Tryd.prog os ⟨#[], #[], []⟩).heap.modify 0 fun
      | .cells _ t frozen => .cells (dbTab.map fun z => Value.int .u8 z).toArray t frozen
      | o => o }
set_option maxRecDepth 100000 in
theorem laidZ_met (os : Os) (args : Array Value) : laidMetH Tryd.prog ZLaid ((laidWorldZ os).forCall (fun _ _ => 0) ⟨#[], args, []⟩).memory := by
  have h : laidMet Tryd.prog ZLaid ((laidWorldZ os).forCall (fun _ _ => 0) ⟨#[], args, []⟩).memory := laidMet_of_run' 8 (by kernel_rfl) (by kernel_rfl)
  exact h
end Go.Proofs.YtpkkajglbklboaaDoor
namespace Go.Proofs.YtpkkajglbklboaaDoor
open Go.ChangeShapes Go.WideShapes Go.ChangeAt Go.RowKit
set_option linter.unusedVariables false
set_option linter.unusedSimpArgs false

/-! The block g may be written, all else stands. -/
def Kg (g : Nat) (w w' : World) : Prop := w.grownBy w' (some g)
theorem Kg.refl (g : Nat) (w : World) : Kg g w w := ⟨rfl, rfl, rfl, Nat.le_refl _, fun _ _ _ => rfl⟩
theorem Kg.size {g : Nat} {w w' : World} (h : Kg g w w') : w.heap.size ≤ w'.heap.size := World.grownBy.size h
theorem Kg.trans {g : Nat} {a b c : World} (h : Kg g a b) (k : Kg g b c) : Kg g a c := by
  obtain ⟨h1, h2, h3, h4, h5⟩ := h
  obtain ⟨k1, k2, k3, k4, k5⟩ := k
  exact ⟨k1.trans h1, k2.trans h2, k3.trans h3, Nat.le_trans h4 k4, fun i hi hn => (k5 i (Nat.lt_of_lt_of_le hi h4) hn).trans (h5 i hi hn)⟩
theorem Kg.of {g : Nat} {w w' : World} (h : Kp w w') : Kg g w w' := by
  obtain ⟨h1, h2, h3, h4, h5⟩ := h
  exact ⟨h1, h2, h3, h4, fun i hi _ => h5 i hi⟩
theorem Kg.drewN {g n : Nat} {w w' : World} (h : Kg g w w') : Kg g w (w'.drewN n) := h.trans (Kg.of (Kp.refl w').drewN)
theorem Kg.alloc {g : Nat} {w w' : World} {o : Obj} (h : Kg g w w') : Kg g w (w'.alloc o) := h.trans (Kg.of (Kp.refl w').alloc)
theorem Kg.set1 {g k : Nat} {w : World} {x : Value} : Kg g w (w.setCell ⟨g, k, none⟩ x) :=
  ⟨rfl, rfl, rfl, by simp [World.setCell], fun i hi hn => Below.heap_setCell _ _ _ _ (by rintro rfl; exact hn rfl)⟩
theorem Kg.set {g k : Nat} {w w' : World} {x : Value} (h : Kg g w w') : Kg g w (w'.setCell ⟨g, k, none⟩ x) := h.trans Kg.set1
theorem Kg.kp {g : Nat} {w0 w w' : World} (h : Kg g w w') (h0 : Kp w0 w) (hg : w0.heap.size ≤ g) : Kp w0 w' := Below.grown h0 h h0.size (fun k hk => by injection hk with hk; omega)
theorem Kg.block {g : Nat} {w w' : World} (h : Kg g w w') {i : Nat} (hi : i < w.heap.size) (hn : i ≠ g) : w'.heap[i]? = w.heap[i]? := World.grownBy.block h i hi (fun e => hn (by injection e))
theorem RD.kg {α : Type} {g : Nat} {w w' : World} {E : Enc α} {v : Value} {l : List α} (h : RD w E v l) (hv : 0 < l.length → v.ownBlock ≠ some g) (hk : Kg g w w') : RD w' E v l := by
  obtain ⟨A, c, rfl, h1, h2, hn, h3⟩ := h
  refine ⟨A, c, rfl, h1, h2, hn, fun h0 => ?_⟩
  obtain ⟨b, o, rfl, hb, hc⟩ := h3 h0
  refine ⟨b, o, rfl, Nat.lt_of_lt_of_le hb hk.size, fun k hk' j hj => ?_⟩
  rw [← hc k hk' j hj]
  have hbg : b ≠ g := fun e => hv h0 (by rw [e]; rfl)
  have := hk.block hb hbg
  exact World.cell?_of_block this
theorem AR.kg {α : Type} {g i : Nat} {w w' : World} {E : Enc α} {e : TypeId} {l : List α} (h : AR w i e E l) (hi : i ≠ g) (hk : Kg g w w') : AR w' i e E l := (hk.block h.lt hi).trans h

end Go.Proofs.YtpkkajglbklboaaDoor
namespace Go.Proofs.YtpkkajglbklboaaDoor
open Go.ChangeShapes Go.WideShapes Go.ChangeAt Go.RowKit
set_option linter.unusedVariables false
set_option linter.unusedSimpArgs false

/-! All but these blocks stands. -/
def Kf (F : Nat → Prop) (w w' : World) : Prop := w'.os = w.os ∧ w'.tape = w.tape ∧ w'.output = w.output ∧ w.heap.size ≤ w'.heap.size ∧ ∀ i, i < w.heap.size → ¬ F i → w'.heap[i]? = w.heap[i]?
section
variable {F G : Nat → Prop} {a b c w w' : World}
theorem Kf.refl (F : Nat → Prop) (w : World) : Kf F w w := ⟨rfl, rfl, rfl, Nat.le_refl _, fun _ _ _ => rfl⟩
theorem Kf.size (h : Kf F w w') : w.heap.size ≤ w'.heap.size := h.2.2.2.1
theorem Kf.block (h : Kf F w w') {i : Nat} (hi : i < w.heap.size) (hn : ¬ F i) : w'.heap[i]? = w.heap[i]? := h.2.2.2.2 i hi hn
theorem Kf.mono (h : Kf F w w') (hF : ∀ i, i < w.heap.size → F i → G i) : Kf G w w' := ⟨h.1, h.2.1, h.2.2.1, h.2.2.2.1, fun i hi hn => h.block hi fun hf => hn (hF i hi hf)⟩
theorem Kf.trans (h : Kf F a b) (k : Kf G b c) (hG : ∀ i, i < a.heap.size → G i → F i) : Kf F a c :=
  ⟨k.1.trans h.1, k.2.1.trans h.2.1, k.2.2.1.trans h.2.2.1, Nat.le_trans h.size k.size, fun i hi hn => (k.block (Nat.lt_of_lt_of_le hi h.size) fun hg => hn (hG i hi hg)).trans (h.block hi hn)⟩
theorem Kf.of (h : Kp w w') : Kf F w w' := by
  obtain ⟨h1, h2, h3, h4, h5⟩ := h
  exact ⟨h1, h2, h3, h4, fun i hi _ => h5 i hi⟩
theorem Kf.on (h : Kf F a b) (k : Kp b c) : Kf F a c := h.trans (Kf.of (F := fun _ => False) k) (fun _ _ h => h.elim)
theorem Kf.kp (h : Kf F w w') (k : Kp a w) (hF : ∀ i, F i → a.heap.size ≤ i) : Kp a w' := by
  obtain ⟨h1, h2, h3, h4, h5⟩ := h
  have hz := k.size
  exact Below.trans (b := w) k ⟨h1, h2, h3, h4, fun i hi => h5 i (by omega) (fun hf => by have := hF i hf; omega)⟩
theorem Kf.set {p : Addr} {u : Value} (h : Kf F a b) (hp : F p.block ∨ a.heap.size ≤ p.block) : Kf F a (b.setCell p u) :=
  ⟨h.1, h.2.1, h.2.2.1, Nat.le_trans h.size (by simp [World.setCell]), fun i hi hn => (Below.heap_setCell _ _ _ _ (by rintro rfl; rcases hp with hp | hp; exact hn hp; omega)).trans (h.block hi hn)⟩
theorem Kf.app {v : Value} (h : Kf F a b) (hg : b.grownBy c v.ownBlock) (hv : ∀ k, v.ownBlock = some k → F k ∨ a.heap.size ≤ k) : Kf F a c := by
  obtain ⟨h1, h2, h3, h4, h5⟩ := hg
  refine ⟨h1.trans h.1, h2.trans h.2.1, h3.trans h.2.2.1, Nat.le_trans h.size h4, fun i hi hn => (h5 i (Nat.lt_of_lt_of_le hi h.size) fun e => ?_).trans (h.block hi hn)⟩
  rcases hv i e.symm with h | h
  · exact hn h
  · omega
theorem Kf.cell (h : Kf F w w') {p : Addr} (hn : ¬ F p.block) {u : Value} (hc : w.cell? p = some u) : w'.cell? p = some u :=
  (World.cell?_of_block (h.block (World.block_lt_of_cell? _ _ hc) hn)).trans hc
theorem Kf.frozen (h : Kf F w w') {p : Addr} (hp : p.block < w.heap.size) (hn : ¬ F p.block) : w'.frozen? p = w.frozen? p := World.frozen?_of_block (h.block hp hn)
theorem RD.kf {α : Type} {E : Enc α} {v : Value} {l : List α} (h : RD w E v l) (hk : Kf F w w') (hv : 0 < l.length → ∀ k, v.ownBlock = some k → ¬ F k) : RD w' E v l := by
  obtain ⟨A, c, rfl, h1, h2, hn, h3⟩ := h
  refine ⟨A, c, rfl, h1, h2, hn, fun h0 => ?_⟩
  obtain ⟨b, o, rfl, hb, hc⟩ := h3 h0
  refine ⟨b, o, rfl, Nat.lt_of_lt_of_le hb hk.size, fun k hk' j hj => ?_⟩
  rw [← hc k hk' j hj]
  exact World.cell?_of_block (hk.block hb (hv h0 b rfl))
theorem OW.kf {α : Type} {B : Nat} {e : TypeId} {E : Enc α} {v : Value} {l : List α} (h : OW w B e E v l) (hk : Kf F w w') (hv : ∀ k, v.ownBlock = some k → ¬ F k) : OW w' B e E v l := by
  obtain ⟨h1, h2⟩ := h
  refine ⟨h1, ?_⟩
  rcases h2 with h2 | ⟨g, cap, cur, rfl, hg, hh, r⟩
  · exact .inl h2
  · refine .inr ⟨g, cap, cur, rfl, hg, ?_, r⟩
    rw [hk.block (Array.getElem?_eq_some_iff.1 hh).1 (hv g rfl)]
    exact hh
/-- A block's whole content. -/
def BC (w : World) (b : Nat) (t : TypeId) (cs : List Value) : Prop := w.heap[b]? = some (.cells cs.toArray t (0, 0))
theorem BC.lt {i : Nat} {t : TypeId} {cs : List Value} (h : BC w i t cs) : i < w.heap.size := (Array.getElem?_eq_some_iff.1 h).1
theorem BC.kf {i : Nat} {t : TypeId} {cs : List Value} (h : BC w i t cs) (hk : Kf F w w') (hn : ¬ F i) : BC w' i t cs := (hk.block h.lt hn).trans h
theorem BC.kp {i : Nat} {t : TypeId} {cs : List Value} (h : BC w i t cs) (hk : Kp w w') : BC w' i t cs := (hk.bel.block i h.lt).trans h
theorem BC.new (w : World) (t : TypeId) (cs : List Value) : BC (w.alloc (.cells cs.toArray t)) w.heap.size t cs := heap_alloc_new w _
theorem BC.cell {i : Nat} {t : TypeId} {cs : List Value} (h : BC w i t cs) (j : Nat) : w.cell? ⟨i, j, none⟩ = cs[j]? := by
  rw [cell_of_row w i j _ t (0, 0) h]; simp
theorem BC.frozen {i : Nat} {t : TypeId} {cs : List Value} (h : BC w i t cs) (j : Nat) : w.frozen? ⟨i, j, none⟩ = false := by
  unfold BC at h
  simp [World.frozen?, h]
theorem BC.ne {i j : Nat} {t u : TypeId} {cs ds : List Value} (h : BC w i t cs) (h' : BC w j u ds) (hn : t ≠ u) : i ≠ j := by
  rintro rfl
  unfold BC at h h'
  rw [h] at h'
  injection h' with h'
  injection h' with _ e
  exact hn e
theorem BC.set {i j : Nat} {t : TypeId} {cs : List Value} {u : Value} (h : BC w i t cs) : BC (w.setCell ⟨i, j, none⟩ u) i t (cs.set j u) := by
  unfold BC at h ⊢
  simp [World.setCell, Array.getElem?_modify, h]
theorem BC.far {i : Nat} {t : TypeId} {cs : List Value} {p : Addr} {u : Value} (h : BC w i t cs) (hp : i ≠ p.block) : BC (w.setCell p u) i t cs := (Below.heap_setCell w p u i hp).trans h
theorem OW.bc_ne {α : Type} {B i : Nat} {e t : TypeId} {E : Enc α} {v : Value} {l : List α} {cs : List Value} (h : OW w B e E v l) (h' : BC w i t cs) (hn : e ≠ t) : v.ownBlock ≠ some i := by
  rcases h.2 with ⟨rfl, _⟩ | ⟨g, cap, cur, rfl, hg, hh, r⟩
  · simp [Value.ownBlock]
  · intro e1
    injection e1 with e1
    subst e1
    unfold BC at h'
    rw [hh] at h'
    injection h' with h'
    injection h' with _ e
    exact hn e
end

/-! Trees. -/
inductive MT (α : Type) where
  | nil
  | node (a : α) (l r : MT α)
def MT.size {α : Type} : MT α → Nat
  | .nil => 0
  | .node _ l r => l.size + 1 + r.size
def nodeC {α : Type} (E : Enc α) (a : α) (pl pr : Option Addr) : List Value := E.cells a ++ [.pointer pl, .pointer pr]
section
variable {α : Type} {E : Enc α} {nt : TypeId} {w w' : World}
def MR (w : World) (nt : TypeId) (E : Enc α) : MT α → Option Addr → List Nat → Prop
  | .nil, p, F => p = none ∧ F = []
  | .node a l r, p, F => ∃ b pl pr Fl Fr, p = some ⟨b, 0, none⟩ ∧ F = b :: (Fl ++ Fr) ∧ BC w b nt (nodeC E a pl pr) ∧ b ∉ Fl ∧ b ∉ Fr ∧ (∀ x ∈ Fl, x ∉ Fr) ∧ MR w nt E l pl Fl ∧ MR w nt E r pr Fr
theorem MR.keep {F : List Nat} (hk : ∀ i ∈ F, w'.heap[i]? = w.heap[i]?) : ∀ {t : MT α} {p : Option Addr}, MR w nt E t p F → MR w' nt E t p F := by
  intro t
  induction t generalizing F with
  | nil => intro p h; exact h
  | node a l r ihl ihr =>
    rintro p ⟨b, pl, pr, Fl, Fr, rfl, rfl, hb, h1, h2, h3, hl, hr⟩
    exact ⟨b, pl, pr, Fl, Fr, rfl, rfl, (hk b (by simp)).trans hb, h1, h2, h3, ihl (fun i hi => hk i (by simp [hi])) hl, ihr (fun i hi => hk i (by simp [hi])) hr⟩
theorem MR.bc {t : MT α} {p : Option Addr} {F : List Nat} (h : MR w nt E t p F) : ∀ i ∈ F, ∃ cs, BC w i nt cs := by
  induction t generalizing F p with
  | nil => obtain ⟨rfl, rfl⟩ := h; simp
  | node a l r ihl ihr =>
    obtain ⟨b, pl, pr, Fl, Fr, rfl, rfl, hb, h1, h2, h3, hl, hr⟩ := h
    intro i hi
    rcases List.mem_cons.1 hi with rfl | hi
    · exact ⟨_, hb⟩
    · rcases List.mem_append.1 hi with hi | hi
      · exact ihl hl i hi
      · exact ihr hr i hi
theorem MR.lt {t : MT α} {p : Option Addr} {F : List Nat} (h : MR w nt E t p F) : ∀ i ∈ F, i < w.heap.size := fun i hi => by
  obtain ⟨cs, h⟩ := h.bc i hi
  exact h.lt
theorem MR.kf {G : Nat → Prop} {t : MT α} {p : Option Addr} {F : List Nat} (h : MR w nt E t p F) (hk : Kf G w w') (hn : ∀ i ∈ F, ¬ G i) : MR w' nt E t p F :=
  MR.keep (fun i hi => hk.block (h.lt i hi) (hn i hi)) h
theorem MR.kp {t : MT α} {p : Option Addr} {F : List Nat} (h : MR w nt E t p F) (hk : Kp w w') : MR w' nt E t p F := h.kf (Kf.of (F := fun _ => False) hk) (fun _ _ h => h)
theorem MR.set {t : MT α} {p : Option Addr} {F : List Nat} (h : MR w nt E t p F) {q : Addr} {u : Value} (hn : q.block ∉ F) : MR (w.setCell q u) nt E t p F :=
  MR.keep (fun i hi => Below.heap_setCell _ _ _ _ (by rintro rfl; exact hn hi)) h
theorem MR.nil : MR w nt E (.nil : MT α) none [] := ⟨rfl, rfl⟩
theorem MR.of_none {t : MT α} {F : List Nat} (h : MR w nt E t none F) : t = .nil ∧ F = [] := by
  cases t with
  | nil => exact ⟨rfl, h.2⟩
  | node a l r => obtain ⟨b, pl, pr, Fl, Fr, h1, _⟩ := h; cases h1
theorem MR.of_some {t : MT α} {F : List Nat} {p : Addr} (h : MR w nt E t (some p) F) : ∃ a l r b pl pr Fl Fr, t = .node a l r ∧ p = ⟨b, 0, none⟩ ∧ F = b :: (Fl ++ Fr) ∧ BC w b nt (nodeC E a pl pr) ∧ b ∉ Fl ∧ b ∉ Fr ∧ (∀ x ∈ Fl, x ∉ Fr) ∧ MR w nt E l pl Fl ∧ MR w nt E r pr Fr := by
  cases t with
  | nil => obtain ⟨h1, _⟩ := h; cases h1
  | node a l r =>
    obtain ⟨b, pl, pr, Fl, Fr, h1, h2, h3, h4, h5, h6, h7, h8⟩ := h
    injection h1 with h1
    exact ⟨a, l, r, b, pl, pr, Fl, Fr, rfl, h1, h2, h3, h4, h5, h6, h7, h8⟩
theorem MR.mk {a : α} {l r : MT α} {b : Nat} {pl pr : Option Addr} {Fl Fr : List Nat} (hb : BC w b nt (nodeC E a pl pr)) (h1 : b ∉ Fl) (h2 : b ∉ Fr) (h3 : ∀ x ∈ Fl, x ∉ Fr) (hl : MR w nt E l pl Fl) (hr : MR w nt E r pr Fr) :
    MR w nt E (.node a l r) (some ⟨b, 0, none⟩) (b :: (Fl ++ Fr)) := ⟨b, pl, pr, Fl, Fr, rfl, rfl, hb, h1, h2, h3, hl, hr⟩
/-- A new leaf. -/
theorem MR.leaf (w : World) (a : α) : MR (w.alloc (.cells (nodeC E a none none).toArray nt)) nt E (.node a .nil .nil) (some ⟨w.heap.size, 0, none⟩) [w.heap.size] :=
  MR.mk (Fl := []) (Fr := []) (BC.new w nt _) (by simp) (by simp) (by simp) MR.nil MR.nil

/-! A way down: a link that holds a subtree, and all that stands round it. -/
structure Fm (α : Type) where
  a : α
  left : Bool
  o : MT α
def Fm.on (f : Fm α) (t : MT α) : MT α := if f.left then .node f.a t f.o else .node f.a f.o t
def plug : List (Fm α) → MT α → MT α
  | [], t => t
  | f :: C, t => plug C (f.on t)
def lk (E : Enc α) (left : Bool) : Nat := if left then E.size else E.size + 1
def fmC (E : Enc α) (f : Fm α) (ph po : Option Addr) : List Value := if f.left then nodeC E f.a ph po else nodeC E f.a po ph
def ZP (w : World) (nt : TypeId) (E : Enc α) (r0 : Addr) : List (Fm α) → Addr → List Nat → Prop
  | [], q, F => q = r0 ∧ F = []
  | f :: C, q, F => ∃ b ph po Fo q' F', q = ⟨b, lk E f.left, none⟩ ∧ BC w b nt (fmC E f ph po) ∧ MR w nt E f.o po Fo ∧ ZP w nt E r0 C q' F' ∧ w.cell? q' = some (.pointer (some ⟨b, 0, none⟩)) ∧ F = b :: (Fo ++ F') ∧ b ∉ Fo ∧ b ∉ F' ∧ ∀ x ∈ Fo, x ∉ F'
variable {r0 q : Addr}
theorem ZP.nil : ZP w nt E r0 ([] : List (Fm α)) r0 [] := ⟨rfl, rfl⟩
theorem ZP.bc {C : List (Fm α)} {F : List Nat} (h : ZP w nt E r0 C q F) : ∀ i ∈ F, ∃ cs, BC w i nt cs := by
  induction C generalizing q F with
  | nil => obtain ⟨rfl, rfl⟩ := h; simp
  | cons f C ih =>
    obtain ⟨b, ph, po, Fo, q', F', rfl, hb, ho, hz, hc, rfl, h1, h2, h3⟩ := h
    intro i hi
    rcases List.mem_cons.1 hi with rfl | hi
    · exact ⟨_, hb⟩
    · rcases List.mem_append.1 hi with hi | hi
      · exact ho.bc i hi
      · exact ih hz i hi
theorem ZP.at_ {C : List (Fm α)} {F : List Nat} (h : ZP w nt E r0 C q F) : q = r0 ∨ q.block ∈ F := by
  cases C with
  | nil => exact .inl h.1
  | cons f C =>
    obtain ⟨b, ph, po, Fo, q', F', rfl, hb, ho, hz, hc, rfl, h1, h2, h3⟩ := h
    exact .inr (by simp)
theorem ZP.keep {C : List (Fm α)} {F : List Nat} (hr : w'.cell? r0 = w.cell? r0) (hk : ∀ i ∈ F, w'.heap[i]? = w.heap[i]?) (h : ZP w nt E r0 C q F) : ZP w' nt E r0 C q F := by
  induction C generalizing q F with
  | nil => exact h
  | cons f C ih =>
    obtain ⟨b, ph, po, Fo, q', F', rfl, hb, ho, hz, hc, rfl, h1, h2, h3⟩ := h
    refine ⟨b, ph, po, Fo, q', F', rfl, (hk b (by simp)).trans hb, MR.keep (fun i hi => hk i (by simp [hi])) ho, ih (fun i hi => hk i (by simp [hi])) hz, ?_, rfl, h1, h2, h3⟩
    rcases hz.at_ with rfl | hq
    · exact hr.trans hc
    · exact (World.cell?_of_block (hk _ (by simp [hq]))).trans hc
theorem ZP.kf {G : Nat → Prop} {C : List (Fm α)} {F : List Nat} (h : ZP w nt E r0 C q F) (hk : Kf G w w') (hr : ¬ G r0.block) (hrl : r0.block < w.heap.size) (hn : ∀ i ∈ F, ¬ G i) : ZP w' nt E r0 C q F :=
  h.keep (World.cell?_of_block (hk.block hrl hr)) fun i hi => by
    obtain ⟨cs, hb⟩ := h.bc i hi
    exact hk.block hb.lt (hn i hi)
theorem ZP.kp {C : List (Fm α)} {F : List Nat} (h : ZP w nt E r0 C q F) (hk : Kp w w') (hrl : r0.block < w.heap.size) : ZP w' nt E r0 C q F := h.kf (Kf.of (F := fun _ => False) hk) (fun h => h) hrl fun _ _ h => h
/-- A store into the link. -/
theorem ZP.store {C : List (Fm α)} {F : List Nat} (h : ZP w nt E r0 C q F) (hr : r0.block ∉ F) (p : Option Addr) : ZP (w.setCell q (.pointer p)) nt E r0 C q F := by
  cases C with
  | nil => exact h
  | cons f C =>
    obtain ⟨b, ph, po, Fo, q', F', rfl, hb, ho, hz, hc, rfl, h1, h2, h3⟩ := h
    simp only [List.mem_cons, List.mem_append, not_or] at hr
    have hne : q' ≠ ⟨b, lk E f.left, none⟩ := by
      rintro rfl
      rcases hz.at_ with h | h
      · exact hr.1 (by rw [← h])
      · exact h2 h
    refine ⟨b, p, po, Fo, q', F', rfl, ?_, ho.set h1, hz.keep (World.cell?_setCell_other _ _ _ _ (fun e => hr.1 (by rw [← e]))) (fun i hi => Below.heap_setCell _ _ _ _ (by rintro rfl; exact h2 hi)), ?_, rfl, h1, h2, h3⟩
    · have h4 := hb.set (j := lk E f.left) (u := .pointer p)
      have hl := E.len f.a
      have e : (fmC E f ph po).set (lk E f.left) (.pointer p) = fmC E f p po := by
        unfold fmC lk nodeC
        cases f.left
        · simp only [Bool.false_eq_true, if_false]
          rw [List.set_append_right _ _ (by omega), hl]; simp
        · simp only [if_true]
          rw [List.set_append_right _ _ (by omega), hl]; simp
      rw [e] at h4
      exact h4
    · rw [World.cell?_setCell_other _ _ _ _ (fun e => hne (by rw [e]))]; exact hc
theorem fmC_link (E : Enc α) (f : Fm α) (ph po : Option Addr) : (fmC E f ph po)[lk E f.left]? = some (.pointer ph) := by
  have hl := E.len f.a
  unfold fmC lk nodeC
  cases f.left
  · simp only [Bool.false_eq_true, if_false]
    rw [List.getElem?_append_right (by omega), hl]; simp
  · simp only [if_true]
    rw [List.getElem?_append_right (by omega), hl]; simp
/-- All of it is one tree. -/
theorem ZP.close {C : List (Fm α)} {F Ft : List Nat} {t : MT α} {p : Option Addr} (h : ZP w nt E r0 C q F) (hc : w.cell? q = some (.pointer p)) (ht : MR w nt E t p Ft) (hd : ∀ x ∈ Ft, x ∉ F) :
    ∃ p0 F0, w.cell? r0 = some (.pointer p0) ∧ MR w nt E (plug C t) p0 F0 ∧ ∀ x, x ∈ F0 ↔ x ∈ Ft ∨ x ∈ F := by
  induction C generalizing q F Ft t p with
  | nil =>
    obtain ⟨rfl, rfl⟩ := h
    exact ⟨p, Ft, hc, ht, fun x => by simp⟩
  | cons f C ih =>
    obtain ⟨b, ph, po, Fo, q', F', rfl, hb, ho, hz, hc', rfl, h1, h2, h3⟩ := h
    have e := hb.cell (lk E f.left)
    rw [hc, fmC_link] at e
    injection e with e
    injection e with e
    subst e
    have hbt : b ∉ Ft := fun h => hd b h (by simp)
    have hto : ∀ x ∈ Ft, x ∉ Fo := fun x hx hx' => hd x hx (by simp [hx'])
    cases hf : f.left with
    | true =>
      have hb' : BC w b nt (nodeC E f.a p po) := by simpa [fmC, hf] using hb
      obtain ⟨p0, F0, g1, g2, g3⟩ := ih hz hc' (MR.mk hb' hbt h1 hto ht ho) (fun x hx hx' => by
        rcases List.mem_cons.1 hx with rfl | hx
        · exact h2 hx'
        · rcases List.mem_append.1 hx with hx | hx
          · exact hd x hx (by simp [hx'])
          · exact h3 x hx hx')
      exact ⟨p0, F0, g1, by simpa [plug, Fm.on, hf] using g2, fun x => by rw [g3 x]; simp only [List.mem_cons, List.mem_append, or_assoc, or_left_comm, or_comm]⟩
    | false =>
      have hb' : BC w b nt (nodeC E f.a po p) := by simpa [fmC, hf] using hb
      obtain ⟨p0, F0, g1, g2, g3⟩ := ih hz hc' (MR.mk hb' h1 hbt (fun x hx hx' => hto x hx' hx) ho ht) (fun x hx hx' => by
        rcases List.mem_cons.1 hx with rfl | hx
        · exact h2 hx'
        · rcases List.mem_append.1 hx with hx | hx
          · exact h3 x hx hx'
          · exact hd x hx (by simp [hx']))
      exact ⟨p0, F0, g1, by simpa [plug, Fm.on, hf] using g2, fun x => by rw [g3 x]; simp only [List.mem_cons, List.mem_append, or_assoc, or_left_comm, or_comm]⟩
/-- One step down. -/
theorem ZP.push {C : List (Fm α)} {F Fl Fr : List Nat} {a : α} {l r : MT α} {b : Nat} {pl pr : Option Addr} (h : ZP w nt E r0 C q F) (hc : w.cell? q = some (.pointer (some ⟨b, 0, none⟩))) (hb : BC w b nt (nodeC E a pl pr)) (hl : MR w nt E l pl Fl) (hr : MR w nt E r pr Fr)
    (h1 : b ∉ Fl) (h2 : b ∉ Fr) (h3 : b ∉ F) (h4 : ∀ x ∈ Fl, x ∉ F) (h5 : ∀ x ∈ Fr, x ∉ F) (left : Bool) :
    ZP w nt E r0 (⟨a, left, if left then r else l⟩ :: C) ⟨b, lk E left, none⟩ (b :: ((if left then Fr else Fl) ++ F)) := by
  cases left with
  | true => exact ⟨b, pl, pr, Fr, q, F, rfl, by simpa [fmC] using hb, hr, h, hc, rfl, h2, h3, h5⟩
  | false => exact ⟨b, pr, pl, Fl, q, F, rfl, by simpa [fmC] using hb, hl, h, hc, rfl, h1, h3, h4⟩
theorem BC.link {b : Nat} {a : α} {pl pr : Option Addr} (hb : BC w b nt (nodeC E a pl pr)) (left : Bool) : w.cell? ⟨b, lk E left, none⟩ = some (.pointer (if left then pl else pr)) := by
  rw [hb.cell]
  have hl := E.len a
  unfold lk nodeC
  cases left
  · simp only [Bool.false_eq_true, if_false]
    rw [List.getElem?_append_right (by omega), hl]; simp
  · simp only [if_true]
    rw [List.getElem?_append_right (by omega), hl]; simp
end

/-! A variable that holds a slice that the call owns. -/
def OB {α : Type} (w : World) (B : Nat) (g : Nat) (st e : TypeId) (E : Enc α) (l : List α) : Prop := ∃ v, BC w g st [v] ∧ OW w B e E v l ∧ v.ownBlock ≠ some g
/-- What a call leaves that appends to the variable g. -/
def KO (g B : Nat) (w w' : World) : Prop := ∃ v v', w.cell? ⟨g, 0, none⟩ = some v ∧ w'.cell? ⟨g, 0, none⟩ = some v' ∧ Kf (fun i => i = g ∨ v.ownBlock = some i) w w' ∧ (v'.ownBlock = v.ownBlock ∨ Hi w.heap.size v')
theorem KO.trans {g B : Nat} {a b c : World} (h : KO g B a b) (k : KO g B b c) : KO g B a c := by
  obtain ⟨v, v', h1, h2, h3, h4⟩ := h
  obtain ⟨u, u', k1, k2, k3, k4⟩ := k
  rw [h2] at k1
  injection k1 with k1
  subst k1
  have hz := h3.size
  refine ⟨v, u', h1, k2, h3.trans k3 (fun i hi hg => ?_), ?_⟩
  · rcases hg with hg | hg
    · exact .inl hg
    · rcases h4 with h4 | h4
      · exact .inr (by rw [← h4]; exact hg)
      · have := h4 i hg; omega
  · rcases k4 with k4 | k4
    · rcases h4 with h4 | h4
      · exact .inl (k4.trans h4)
      · exact .inr (fun i hi => h4 i (by rw [← k4]; exact hi))
    · exact .inr (k4.mono hz)
theorem KO.refl {g B : Nat} {w : World} {v : Value} (h : w.cell? ⟨g, 0, none⟩ = some v) : KO g B w w := ⟨v, v, h, h, Kf.refl _ _, .inl rfl⟩
theorem OB.lt {α : Type} {w : World} {B g : Nat} {st e : TypeId} {E : Enc α} {l : List α} (h : OB w B g st e E l) : g < w.heap.size := by
  obtain ⟨v, h, _⟩ := h
  exact h.lt
theorem MR.ko {α β : Type} {w w' : World} {B g : Nat} {nt st e : TypeId} {E : Enc α} {E' : Enc β} {l : List β} {t : MT α} {p : Option Addr} {F : List Nat} (h : MR w nt E t p F) (ho : OB w B g st e E' l) (hk : KO g B w w') (h1 : st ≠ nt) (h2 : e ≠ nt) : MR w' nt E t p F := by
  obtain ⟨v, hb, hv, hn⟩ := ho
  obtain ⟨v1, v2, k1, k2, k3, k4⟩ := hk
  have e1 : some v1 = some v := k1.symm.trans (hb.cell 0)
  injection e1 with e1
  subst e1
  refine h.kf k3 fun i hi hg => ?_
  obtain ⟨cs, hc⟩ := h.bc i hi
  rcases hg with rfl | hg
  · exact hb.ne hc h1 rfl
  · exact hv.bc_ne hc h2 hg
theorem KO.kp {g B : Nat} {a w w' : World} (h : KO g B w w') (k : Kp a w) (hg : a.heap.size ≤ g) (hv : ∀ v, w.cell? ⟨g, 0, none⟩ = some v → Hi a.heap.size v) : Kp a w' := by
  obtain ⟨v, v', h1, h2, h3, h4⟩ := h
  exact h3.kp k fun i hi => by
    rcases hi with rfl | hi
    · exact hg
    · exact hv v h1 i hi
end Go.Proofs.YtpkkajglbklboaaDoor
