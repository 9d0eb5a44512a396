/-
  Ops and answers of a map as they lie in memory. Conditions: none.
-/
import Derived.Test.YtkfgpoeodpndlaaArr
namespace Go.Proofs.Ytkfgpoeodpndlaa
open Go.ChangeShapes Go.WideShapes Go.ChangeAt Go.RowKit
set_option linter.unusedVariables false
set_option linter.unusedSimpArgs false

structure An where
  err : Int
  key : Int
  val : Int
  is : Bool
deriving DecidableEq
def An.v (a : An) : Value := .agg #[.int .i64 a.err, .int .i64 a.key, .int .i64 a.val, .bool a.is]
theorem An.v_inj {a b : An} (h : a.v = b.v) : a = b := by
  cases a; cases b; simp [An.v] at h; simp [h]
abbrev O3 := Int × Int × Int
def eAns : Enc An := ⟨4, fun a => [.int .i64 a.err, .int .i64 a.key, .int .i64 a.val, .bool a.is], fun _ => rfl, fun _ u h => by simp at h; rcases h with rfl | rfl | rfl | rfl <;> rfl⟩
def eOp : Enc O3 := ⟨3, fun o => [.int .i64 o.1, .int .i64 o.2.1, .int .i64 o.2.2], fun _ => rfl, fun _ u h => by simp at h; rcases h with rfl | rfl | rfl <;> rfl⟩
section
variable {w : World} {A : Option Addr} {n c : Nat}
theorem RD.op {l : List O3} (h : RD w eOp (.slice A n c) l) {k : Nat} (hk : k < l.length) :
    ∃ b o, A = some ⟨b, o, none⟩ ∧ b < w.heap.size ∧ w.cell? ⟨b, o + k * 3, none⟩ = some (.int .i64 l[k].1) ∧ w.cell? ⟨b, o + k * 3 + 1, none⟩ = some (.int .i64 l[k].2.1) ∧ w.cell? ⟨b, o + k * 3 + 2, none⟩ = some (.int .i64 l[k].2.2) := by
  obtain ⟨b, o, rfl, hb, hc⟩ := h.at_ hk
  exact ⟨b, o, rfl, hb, hc 0 (by decide), hc 1 (by decide), hc 2 (by decide)⟩
theorem RD.ans {l : List An} (h : RD w eAns (.slice A n c) l) {k : Nat} (hk : k < l.length) :
    ∃ b o, A = some ⟨b, o, none⟩ ∧ b < w.heap.size ∧ w.cell? ⟨b, o + k * 4, none⟩ = some (.int .i64 l[k].err) ∧ w.cell? ⟨b, o + k * 4 + 1, none⟩ = some (.int .i64 l[k].key) ∧ w.cell? ⟨b, o + k * 4 + 2, none⟩ = some (.int .i64 l[k].val) ∧ w.cell? ⟨b, o + k * 4 + 3, none⟩ = some (.bool l[k].is) := by
  obtain ⟨b, o, rfl, hb, hc⟩ := h.at_ hk
  exact ⟨b, o, rfl, hb, hc 0 (by decide), hc 1 (by decide), hc 2 (by decide), hc 3 (by decide)⟩
end
theorem info_ans : (Try.prog.info? 27).map (fun i => (i.zero, i.size, i.bytes)) = some (some (.agg #[.int .i64 0, .int .i64 0, .int .i64 0, .bool false]), 4, 32) := by kernel_rfl
theorem row_ans : Row Try.prog 40 27 eAns 32 := row_of info_ans Try.underlying40 rfl rfl (by decide)
end Go.Proofs.Ytkfgpoeodpndlaa
