/-
  A map that the call makes and that counts: how often each number came. Conditions: none.
-/
import Derived.Test.YtpmhpogkpkhbfaaArr
import Derived.Maps.OwnOps
import Derived.Maps.Views
namespace Go.Proofs.Ytpmhpogkpkhbfaa
open Go.ChangeShapes Go.WideShapes Go.ChangeAt Go.RowKit Go.Maps
set_option linter.unusedVariables false
set_option linter.unusedSimpArgs false

def cntMD : List Int → DataW Unit
  | [] => .map []
  | x :: t => (cntMD t).put (.int .i64 x) (.lit (.int .i64 ((t.count x : Nat) + 1 : Int)))
theorem cntMD_map : ∀ l, IsMap (cntMD l)
  | [] => ⟨[], rfl⟩
  | x :: t => (cntMD_map t).put _ _
theorem cntMD_at : ∀ (l : List Int) (y : Int), (cntMD l).atKey (.int .i64 y) (.lit (.int .i64 0)) = .lit (.int .i64 ((l.count y : Nat) : Int))
  | [], y => rfl
  | x :: t, y => by
    rw [cntMD]
    by_cases hxy : y = x
    · subst hxy
      rw [atKey_put_same (cntMD_map t) (show WideAt.IsKeyLit (.int .i64 y) from trivial)]; simp
    · rw [atKey_put_other (by intro e; injection e with _ e; exact hxy e), cntMD_at t y]
      have : ¬ (x == y) = true := by simp; exact fun e => hxy e.symm
      simp [List.count_cons, this]
theorem wf_in2 {n : Int} (h : -9223372036854775808 ≤ n ∧ n ≤ 9223372036854775807) : (Lit.int .i64 n).wf = true := by
  simp [Lit.wf, IntKind.min, IntKind.max, IntKind.signed, IntKind.bits]
  omega
theorem int_law2 : Keyed Try.prog 3 := int_keyed Try.underlying3
theorem int_zero2 (w : World) : (zeroValue 3).run Try.prog w = .ok (.int .i64 0) w := by kernel_rfl
end Go.Proofs.Ytpmhpogkpkhbfaa
