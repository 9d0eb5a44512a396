/-
  Ops and answers of a map as they lie in memory. Conditions: none.
-/
import Derived.Test.YtcpponjknmkfaaaArr
namespace Go.Proofs.Ytcpponjknmkfaaa
open Go.ChangeShapes Go.WideShapes Go.ChangeAt Go.RowKit
set_option linter.unusedVariables false
set_option linter.unusedSimpArgs false

structure An where
  err : Int
  key : Int
  val : Int
  is : Bool
deriving DecidableEq
def An.v (a : An) : Value := .agg #[.int .i64 a.err, .int .i64 a.key, .int .i64 a.val, .bool a.is]
theorem An.v_inj {a b : An} (h : a.v = b.v) : a = b := by
  cases a; cases b; simp [An.v] at h; simp [h]
abbrev O3 := Int × Int × Int
def eAns : Enc An := ⟨4, fun a => [.int .i64 a.err, .int .i64 a.key, .int .i64 a.val, .bool a.is], fun _ => rfl, fun _ u h => by simp at h; rcases h with rfl | rfl | rfl | rfl <;> rfl⟩
def eOp : Enc O3 := ⟨3, fun o => [.int .i64 o.1, .int .i64 o.2.1, .int .i64 o.2.2], fun _ => rfl, fun _ u h => by simp at h; rcases h with rfl | rfl | rfl <;> rfl⟩
section
variable {w : World} {A : Option Addr} {n c : Nat}
theorem RD.op {l : List O3} (h : RD w eOp (.slice A n c) l) {k : Nat} (hk : k < l.length) :
    ∃ b o, A = some ⟨b, o, none⟩ ∧ b < w.heap.size ∧ w.cell? ⟨b, o + k * 3, none⟩ = some (.int .i64 l[k].1) ∧ w.cell? ⟨b, o + k * 3 + 1, none⟩ = some (.int .i64 l[k].2.1) ∧ w.cell? ⟨b, o + k * 3 + 2, none⟩ = some (.int .i64 l[k].2.2) := by
  obtain ⟨b, o, rfl, hb, hc⟩ := h.at_ hk
  exact ⟨b, o, rfl, hb, hc 0 (by decide), hc 1 (by decide), hc 2 (by decide)⟩
theorem RD.ans {l : List An} (h : RD w eAns (.slice A n c) l) {k : Nat} (hk : k < l.length) :
    ∃ b o, A = some ⟨b, o, none⟩ ∧ b < w.heap.size ∧ w.cell? ⟨b, o + k * 4, none⟩ = some (.int .i64 l[k].err) ∧ w.cell? ⟨b, o + k * 4 + 1, none⟩ = some (.int .i64 l[k].key) ∧ w.cell? ⟨b, o + k * 4 + 2, none⟩ = some (.int .i64 l[k].val) ∧ w.cell? ⟨b, o + k * 4 + 3, none⟩ = some (.bool l[k].is) := by
  obtain ⟨b, o, rfl, hb, hc⟩ := h.at_ hk
  exact ⟨b, o, rfl, hb, hc 0 (by decide), hc 1 (by decide), hc 2 (by decide), hc 3 (by decide)⟩
end
/-! Boxes that hold an answer. -/
def BX (W : World) (a : Nat) (n : An) : Prop := W.cell? ⟨a, 0, none⟩ = some (.int .i64 n.err) ∧ W.cell? ⟨a, 1, none⟩ = some (.int .i64 n.key) ∧ W.cell? ⟨a, 2, none⟩ = some (.int .i64 n.val) ∧ W.cell? ⟨a, 3, none⟩ = some (.bool n.is)
theorem BX.kp {W W' : World} {a : Nat} {n : An} (h : BX W a n) (hk : Kp W W') : BX W' a n := ⟨hk.cell h.1, hk.cell h.2.1, hk.cell h.2.2.1, hk.cell h.2.2.2⟩
theorem BX.new (w : World) (a b c : Int) (d : Bool) (t : TypeId) : BX (w.alloc (.cells #[.int .i64 a, .int .i64 b, .int .i64 c, .bool d] t)) w.heap.size ⟨a, b, c, d⟩ := by simp [BX, go_sem]
def FZ (W : World) (a : Nat) : Prop := W.frozen? ⟨a, 0, none⟩ = false ∧ W.frozen? ⟨a, 1, none⟩ = false ∧ W.frozen? ⟨a, 2, none⟩ = false ∧ W.frozen? ⟨a, 3, none⟩ = false
theorem FZ.kp {W W' : World} {a : Nat} (h : FZ W a) (ha : a < W.heap.size) (hk : Kp W W') : FZ W' a := ⟨(hk.frozen (p := ⟨a, 0, none⟩) ha).trans h.1, (hk.frozen (p := ⟨a, 1, none⟩) ha).trans h.2.1, (hk.frozen (p := ⟨a, 2, none⟩) ha).trans h.2.2.1, (hk.frozen (p := ⟨a, 3, none⟩) ha).trans h.2.2.2⟩
theorem FZ.new (w : World) (cs : Array Value) (t : TypeId) : FZ (w.alloc (.cells cs t)) w.heap.size := by simp [FZ, go_sem]
theorem BX.lt {W : World} {a : Nat} {n : An} (h : BX W a n) : a < W.heap.size := World.block_lt_of_cell? _ _ h.1
theorem BX.set {W : World} {a : Nat} {n : An} (h : BX W a n) (e k v : Int) (i : Bool) : BX ((((W.setCell ⟨a, 0, none⟩ (.int .i64 e)).setCell ⟨a, 1, none⟩ (.int .i64 k)).setCell ⟨a, 2, none⟩ (.int .i64 v)).setCell ⟨a, 3, none⟩ (.bool i)) a ⟨e, k, v, i⟩ := by
  obtain ⟨h0, h1, h2, h3⟩ := h
  simp [BX, go_sem, h0, h1, h2, h3]
theorem FZ.set {W : World} {a : Nat} (h : FZ W a) (e k v : Int) (i : Bool) : FZ ((((W.setCell ⟨a, 0, none⟩ (.int .i64 e)).setCell ⟨a, 1, none⟩ (.int .i64 k)).setCell ⟨a, 2, none⟩ (.int .i64 v)).setCell ⟨a, 3, none⟩ (.bool i)) a := by
  obtain ⟨h0, h1, h2, h3⟩ := h
  simp [FZ, go_sem, h0, h1, h2, h3]

theorem Kp.callK {w W W' : World} (hb : Kp W W') (h : Kp w W) : Kp w W' := h.trans hb
end Go.Proofs.Ytcpponjknmkfaaa
