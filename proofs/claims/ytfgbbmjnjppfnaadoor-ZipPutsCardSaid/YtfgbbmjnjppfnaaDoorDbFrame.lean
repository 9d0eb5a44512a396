/-
  The frame of a law whose row lists the table of math/bits: what the condition gives a walk (DTb); a world that meets it. Conditions: none.
-/
import Derived.Test.YtfgbbmjnjppfnaaDoorFrame
import Derived.Test.YtfgbbmjnjppfnaaDoorHgt
import Derived.Lib.LaidTab
import Derived.LaidHandle
import Derived.LaidLaws
namespace Go.Proofs.YtfgbbmjnjppfnaaDoor
open Go.ChangeShapes Go.WideShapes Go.ChangeAt Go.RowKit Go.Deep
set_option linter.unusedVariables false
set_option linter.unusedSimpArgs false

def ZLaid : List (String × DataW Unit) := [("math/bits.deBruijn64tab", Rows.laid_math_bits_deBruijn64tab)]
set_option maxRecDepth 100000 in
theorem gTab : Tryd.prog.globalNamed "math/bits.deBruijn64tab" = some 0 := by kernel_rfl
set_option maxRecDepth 100000 in
theorem gTabType : (Tryd.prog.globals[0]?).map (·.type) = some 129 := by kernel_rfl
set_option maxRecDepth 100000 in
theorem cellsTab : Tryd.prog.cellsOf 129 = 64 := by kernel_rfl
set_option maxRecDepth 100000 in
theorem cellsU8 : Tryd.prog.cellsOf 5 = 1 := by kernel_rfl
set_option maxRecDepth 100000 in
theorem db_of_laid {W : World} (h : laidMetH Tryd.prog ZLaid W) : DTb W := by
  have h1 : laidMet Tryd.prog [("math/bits.deBruijn64tab", Lib.tabData .u8 dbTab)] W := h
  have hT := Lib.tabIs_of_head gTab gTabType Tryd.underlying129 Tryd.underlying5 cellsU8 cellsTab h1
  intro i hi
  exact hT.cell gTab i (by simpa [dbTab] using hi)
noncomputable def laidWorldZ (os : Os) : World :=
  { World.holding Tryd.prog os ⟨#[], #[], []⟩ with heap := (World.holding Tryd.prog os ⟨#[], #[], []⟩).heap.modify 0 fun
      | .cells _ t frozen => .cells (dbTab.map fun z => Value.int .u8 z).toArray t frozen
      | o => o }
set_option maxRecDepth 100000 in
theorem laidZ_met (os : Os) (args : Array Value) : laidMetH Tryd.prog ZLaid ((laidWorldZ os).forCall (fun _ _ => 0) ⟨#[], args, []⟩).memory := by
  have h : laidMet Tryd.prog ZLaid ((laidWorldZ os).forCall (fun _ _ => 0) ⟨#[], args, []⟩).memory := laidMet_of_run' 8 (by kernel_rfl) (by kernel_rfl)
  exact h
end Go.Proofs.YtfgbbmjnjppfnaaDoor
