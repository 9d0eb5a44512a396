/-
  Arguments opened to RD: what all frames of this seat share. Conditions: none.
-/
import Derived.Test.YtfgbbmjnjppfnaaDoorOpen
import Derived.OpenShut
namespace Go.Proofs.YtfgbbmjnjppfnaaDoor
open Go.ChangeShapes Go.WideShapes Go.ChangeAt Go.RowKit Go.Deep
set_option linter.unusedVariables false
set_option linter.unusedSimpArgs false

set_option maxRecDepth 100000 in
theorem own : ownKnob Tryd.prog.godebug = none := by kernel_rfl
set_option maxRecDepth 100000 in
theorem laidOut : laidOutB Tryd.prog = true := by kernel_rfl
section
variable {H : Type} {enc : TypeId × Value → H} {w : World} {base : Nat} {spare : Nat → Bool} {held : Bool} {a0 : Option Addr} {n c : Nat} {d : DataW H} {p : List MemPlace}
set_option maxRecDepth 100000 in
theorem arg_pairs (h : DataW.Trod enc Tryd.prog w base spare held 41 (.slice a0 n c) d p) : ∃ l, RD w ePair (.slice a0 n c) l := by
  obtain ⟨fuel, hf⟩ := h
  obtain ⟨v, hv, l, hl⟩ := rd_pairs Tryd.underlying41 Tryd.underlying62 (by kernel_rfl) (by kernel_rfl) Tryd.underlying3 Tryd.underlying3 hf
  simp [Value.cells] at hv
  subst hv
  exact ⟨l, hl⟩
set_option maxRecDepth 100000 in
theorem arg_spots (h : DataW.Trod enc Tryd.prog w base spare held 22 (.slice a0 n c) d p) : ∃ l, RD w ePair (.slice a0 n c) l := by
  obtain ⟨fuel, hf⟩ := h
  obtain ⟨v, hv, l, hl⟩ := rd_pairs Tryd.underlying22 Tryd.underlying51 (by kernel_rfl) (by kernel_rfl) Tryd.underlying3 Tryd.underlying3 hf
  simp [Value.cells] at hv
  subst hv
  exact ⟨l, hl⟩
set_option maxRecDepth 100000 in
theorem arg_ints (h : DataW.Trod enc Tryd.prog w base spare held 30 (.slice a0 n c) d p) : ∃ l, RD w eInt (.slice a0 n c) l := by
  obtain ⟨fuel, hf⟩ := h
  obtain ⟨v, hv, l, hl⟩ := rd_ints Tryd.underlying30 Tryd.underlying3 (by kernel_rfl) hf
  simp [Value.cells] at hv
  subst hv
  exact ⟨l, hl⟩
set_option maxRecDepth 100000 in
theorem arg_ops (h : DataW.Trod enc Tryd.prog w base spare held 37 (.slice a0 n c) d p) : ∃ l, RD w eOp (.slice a0 n c) l := by
  obtain ⟨fuel, hf⟩ := h
  obtain ⟨v, hv, l, hl⟩ := rd_triples Tryd.underlying37 Tryd.underlying58 (by kernel_rfl) (by kernel_rfl) Tryd.underlying3 Tryd.underlying3 Tryd.underlying3 hf
  simp [Value.cells] at hv
  subst hv
  exact ⟨l, hl⟩
set_option maxRecDepth 100000 in
theorem arg_op {r : Reach} {b0 : Nat} {v : Value} (hv : Value.okWide Tryd.prog w r b0 58 v) (h : DataW.Trod enc Tryd.prog w base spare held 58 v d p) : ∃ x y z : Int, v = .agg #[.int .i64 x, .int .i64 y, .int .i64 z] :=
  rd_triple Tryd.underlying58 (by kernel_rfl) (by kernel_rfl) Tryd.underlying3 Tryd.underlying3 Tryd.underlying3 hv h
end
theorem wf_i64 {H : Type} {enc : TypeId × Value → H} {P : Program} {w : World} {base : Nat} {spare : Nat → Bool} {held : Bool} {t : TypeId} {n : Int} {m : Nat} {x : DataW H × List MemPlace} (ht : P.underlying t = some (.int .i64))
    (h : DataW.trod enc P w base spare held m t (Value.int .i64 n).cells.toList = some x) : -9223372036854775808 ≤ n ∧ n ≤ 9223372036854775807 := by
  obtain ⟨k, e, _, hw⟩ := DataW.trod_int ht h
  simp [Value.cells] at e
  subst e
  simp [Lit.wf, IntKind.min, IntKind.max, IntKind.bits, IntKind.signed] at hw
  omega
theorem and_true_of {a b : Bool} (ha : a = true) (hb : b = true) : (a && b) = true := by rw [ha, hb]; rfl
end Go.Proofs.YtfgbbmjnjppfnaaDoor
