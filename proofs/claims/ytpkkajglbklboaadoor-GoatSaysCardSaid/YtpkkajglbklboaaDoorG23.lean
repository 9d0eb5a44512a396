/-
  skip.told, skip.stack.nth: what they answer. Conditions: the stack reads as ts (SK); the place is there.
  skip.within: what it answers. Conditions: none.
-/
import Derived.Test.YtpkkajglbklboaaDoorG20
import Derived.LaidEqlPtr
import Derived.Test.YtpkkajglbklboaaDoorG3

namespace Go.Proofs.YtpkkajglbklboaaDoor
open Go.ChangeShapes Go.WideShapes Go.ChangeAt Go.RowKit
set_option linter.unusedVariables false
set_option linter.unusedSimpArgs false

set_option maxRecDepth 100000 in
theorem info_tow : (Tryd.prog.info? 124).map (fun i => (i.zero, i.size, i.bytes)) = some (some (.agg #[.int .i64 0, .int .i64 0, .slice none 0 0]), 3, 40) := by kernel_rfl
/-- Two towers are not the same pointer. -/
theorem run_neq_other (w : World) {b c : Nat} {cb cc : List Value} (hne : ¬ b = c) (hb : BC w b tT cb) (hc : BC w c tT cc) : (binOp .neq 119 (.pointer (some ⟨b, 0, none⟩)) (.pointer (some ⟨c, 0, none⟩))).run Tryd.prog w = .ok (.bool true) w := by
  obtain ⟨j, hj, _, hs, _⟩ := info_parts info_tow
  have hd : ∀ d : Nat, (Op.equalIn (d + 1) 119 (.pointer (some ⟨b, 0, none⟩)) (.pointer (some ⟨c, 0, none⟩))).run Tryd.prog w = .ok false w := fun d => by
    simp [Op.equalIn, run_underlying Tryd.underlying119, sizeOf, typeInfo, hj, hs, run_sameAddr_other w (a := ⟨b, 0, none⟩) (b := ⟨c, 0, none⟩) (fun e => hne (by injection e)) hb hc]
  simp only [binOp, Op.equal, Op.maxDepth]
  simp [hd 9999]
theorem run_neq_same (w : World) (a : Addr) : (binOp .neq 119 (.pointer (some a)) (.pointer (some a))).run Tryd.prog w = .ok (.bool false) w := by
  obtain ⟨j, hj, _, hs, _⟩ := info_parts info_tow
  have hd : ∀ d : Nat, (Op.equalIn (d + 1) 119 (.pointer (some a)) (.pointer (some a))).run Tryd.prog w = .ok true w := fun d => by
    simp [Op.equalIn, run_underlying Tryd.underlying119, sizeOf, typeInfo, hj, run_sameAddr_same]
  simp only [binOp, Op.equal, Op.maxDepth]
  simp [hd 9999]
def KPost (v : Value) (w : World) (e : Ending) (w' : World) : Prop := e = .returned v ∧ Kp w w'
def NtRel (ts : List Tw) (n : Nat) (w : World) (nv tv kv lv : Value) (wr : World) : Prop :=
  ∃ j i : Nat, j ≤ 12 ∧ i ≤ n ∧ j ≤ (tw ts i).h ∧ (∀ x, i < x → x ≤ n → (tw ts x).h ≤ j) ∧ nv = .int .i64 ((n - i : Nat) : Int) ∧ tv = .pointer (some ⟨(tw ts i).b, 0, none⟩) ∧ kv = .int .i64 ((j : Int) - 1) ∧ Kp w wr
def NjRel (ts : List Tw) (n r : Nat) (w : World) (nv tv lv : Value) (wr : World) : Prop :=
  ∃ i m : Nat, i ≤ n ∧ r < (tw ts i).h ∧ (∀ x, i < x → x ≤ n → (tw ts x).h ≤ r + 1) ∧ nv = .int .i64 ((n - i : Nat) : Int) ∧ tv = .pointer (some ⟨(tw ts i).b, 0, none⟩) ∧ lv = .pointer (some ⟨m, 0, none⟩) ∧
    w.heap.size ≤ m ∧ BC wr m tL [.pointer (lnk ts i r).1, .int .i64 ((lnk ts i r).2 : Nat)] ∧ Kp w wr
end Go.Proofs.YtpkkajglbklboaaDoor
namespace Go.Proofs.YtpkkajglbklboaaDoor
open Go.ChangeShapes Go.WideShapes Go.ChangeAt Go.RowKit
set_option linter.unusedVariables false
set_option linter.unusedSimpArgs false

theorem sk_within_any (n lo hi : Int) (w : World) :
    Calls Tryd.prog 67 #[.int .i64 n, .int .i64 lo, .int .i64 hi] w fun e w' => e = .returned (.bool (btw n lo hi)) ∧ w = w' := by
  by_cases h1 : lo ≤ n
  · by_cases h2 : n ≤ hi
    · go_enter Tryd.func67, Tryd.ntmps67
      go_wp2
      go_ret
      exact ⟨by simp [btw]; omega, rfl⟩
    · go_enter Tryd.func67, Tryd.ntmps67
      go_wp2
      go_ret
      exact ⟨by simp [btw]; omega, rfl⟩
  · go_enter Tryd.func67, Tryd.ntmps67
    go_wp2
    go_ret
    exact ⟨by simp [btw]; omega, rfl⟩
theorem sk_within_to (n lo hi : Int) (b : Bool) (w : World) (h : btw n lo hi = b) :
    Calls Tryd.prog 67 #[.int .i64 n, .int .i64 lo, .int .i64 hi] w fun e w' => e = .returned (.bool b) ∧ w = w' := by
  have := sk_within_any n lo hi w
  rwa [h] at this
end Go.Proofs.YtpkkajglbklboaaDoor
