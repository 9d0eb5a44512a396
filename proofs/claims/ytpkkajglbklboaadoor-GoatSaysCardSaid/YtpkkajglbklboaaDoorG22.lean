/-
  skip.stack.cut: what it answers and leaves. Conditions: the stack reads as ts (SK).
-/
import Derived.Test.YtpkkajglbklboaaDoorG20
import Derived.Test.YtpkkajglbklboaaDoorG21
import Derived.StillTailTactics

namespace Go.Proofs.YtpkkajglbklboaaDoor
open Go.ChangeShapes Go.WideShapes Go.ChangeAt Go.RowKit
set_option linter.unusedVariables false
set_option linter.unusedSimpArgs false

def ScRel (s : Nat) (ts : List Tw) (ts0 : List Tw) (C : Nat) (t : Tw) (key : Int) (w : World) (B tb : Nat) (kv : Value) (wr : World) : Prop :=
  ∃ q : Nat, q ≤ 12 ∧ kv = .int .i64 (q : Int) ∧ SKF wr (Gq ts0 C t q) (insT ts0 C t) B ∧
    BC wr s tS [.pointer (some ⟨(tw ts 0).b, 0, none⟩), .int .i64 0, .int .i64 ((ts.length - 1 : Nat) : Int)] ∧
    BC wr tb tR (trC ts key 0) ∧ BC wr w.heap.size 32 [.int .i64 0, .int .i64 0, .int .i64 0, .bool false] ∧ KQ B w wr

end Go.Proofs.YtpkkajglbklboaaDoor
