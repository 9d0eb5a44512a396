/-
  No cell of these rows narrows 'for every input' (looked for: loops, veiled, ifaces, maps, wideKeys, modest, calm, conditions, laid).
  DERIVED. THE GIVEN ROWS OF THIS SEAT. 7 by the template 'for every input the law returns true; each argument reads behind the call as it read before'; 0 by the template 'total and deterministic' (their statements: YtcpponjknmkfaaaTotals.lean).
  GIVEN WITH THE SEED: the statements are not yours to turn. If you find one false, say at which input.
  Laid BY PROGRAM, IN A SANDBOX (cutbox-rows.mjs): the forced cells as the released guide's own fill.sh prints them over the translation a802f2b633091d9e… (all of the seat's roots in one cut). By AI agents, Wed Nov 11 2026. No macro, syntax, notation, axiom, sorry.
-/
import Derived.Test.YtcpponjknmkfaaaChecked
import GoSem.Claim
import GoSem.ClaimJoined
import GoSem.ClaimMapViews
import Derived.JoinedTies
import Derived.KernelRfl
namespace Go.Proofs.Ytcpponjknmkfaaa
/- THE CELL 'sum', in the pinned program and in every row, IS THE sha256 OF THE DUMP (.gsa) THAT YtcpponjknmkfaaaProg.lean LOADS. Nothing in Lean hashes anything: it is a label: what it is worth is what the hold of that sum in a sandbox is worth. -/
noncomputable def Try.pinned : Pinned := { name := "ytcpponjknmkfaaa", sum := "a802f2b633091d9ed261625ee94dbebb14ff712e4514e9f5f85277914e53769a", checked := Try.checked }
namespace Rows
def none {H : Type} : Left H := { results := [], args := [] }

/-- 'hedglaw.ShapeSays': WHATEVER THE INPUT: true; the input reads as it did. -/
def shapeSaysSpec : ChangeSpec := { name := "shapeSays", fn := fun _ => fun
  | [d1, d2, d3] => { results := [.lit (.bool true)], args := [d1, d2, d3] }
  | _ => none }
def shapeSaysRow : OpenClaim := { program := "ytcpponjknmkfaaa", sum := "a802f2b633091d9ed261625ee94dbebb14ff712e4514e9f5f85277914e53769a", func := "hedgewright/hedglaw.ShapeSays", spec := "shapeSays", unfollowed := true, recurses := true, apart := false }
def ShapeSaysSaid : Prop := shapeSaysRow.holds Try.pinned (OpenSpec.ofChange shapeSaysSpec)

/-- ITS FALSE NEIGHBOUR: 'it returns false'. Refute it at one input. -/
def shapeSaysWrong : ChangeSpec := { name := "shapeSays", fn := fun _ => fun
  | [d1, d2, d3] => { results := [.lit (.bool false)], args := [d1, d2, d3] }
  | _ => none }
def ShapeSaysWrongFalsely : Prop := shapeSaysRow.holds Try.pinned (OpenSpec.ofChange shapeSaysWrong)

/-- 'hedgkeep.ShapeBack': WHATEVER THE INPUT: true; the input reads as it did. -/
def shapeBackSpec : ChangeSpec := { name := "shapeBack", fn := fun _ => fun
  | [d1, d2] => { results := [.lit (.bool true)], args := [d1, d2] }
  | _ => none }
def shapeBackRow : OpenClaim := { program := "ytcpponjknmkfaaa", sum := "a802f2b633091d9ed261625ee94dbebb14ff712e4514e9f5f85277914e53769a", func := "hedgewright/hedgkeep.ShapeBack", spec := "shapeBack", unfollowed := true, recurses := true, apart := false }
def ShapeBackSaid : Prop := shapeBackRow.holds Try.pinned (OpenSpec.ofChange shapeBackSpec)

/-- ITS FALSE NEIGHBOUR: 'it returns false'. Refute it at one input. -/
def shapeBackWrong : ChangeSpec := { name := "shapeBack", fn := fun _ => fun
  | [d1, d2] => { results := [.lit (.bool false)], args := [d1, d2] }
  | _ => none }
def ShapeBackWrongFalsely : Prop := shapeBackRow.holds Try.pinned (OpenSpec.ofChange shapeBackWrong)

/-- 'hedgkeep.ShapeTurned': WHATEVER THE INPUT: true; the input reads as it did. -/
def shapeTurnedSpec : ChangeSpec := { name := "shapeTurned", fn := fun _ => fun
  | [d1, d2] => { results := [.lit (.bool true)], args := [d1, d2] }
  | _ => none }
def shapeTurnedRow : OpenClaim := { program := "ytcpponjknmkfaaa", sum := "a802f2b633091d9ed261625ee94dbebb14ff712e4514e9f5f85277914e53769a", func := "hedgewright/hedgkeep.ShapeTurned", spec := "shapeTurned", unfollowed := true, recurses := true, apart := false }
def ShapeTurnedSaid : Prop := shapeTurnedRow.holds Try.pinned (OpenSpec.ofChange shapeTurnedSpec)

/-- ITS FALSE NEIGHBOUR: 'it returns false'. Refute it at one input. -/
def shapeTurnedWrong : ChangeSpec := { name := "shapeTurned", fn := fun _ => fun
  | [d1, d2] => { results := [.lit (.bool false)], args := [d1, d2] }
  | _ => none }
def ShapeTurnedWrongFalsely : Prop := shapeTurnedRow.holds Try.pinned (OpenSpec.ofChange shapeTurnedWrong)

/-- 'hedgkeep.ShapeWays': WHATEVER THE INPUT: true; the input reads as it did. -/
def shapeWaysSpec : ChangeSpec := { name := "shapeWays", fn := fun _ => fun
  | [d] => { results := [.lit (.bool true)], args := [d] }
  | _ => none }
def shapeWaysRow : OpenClaim := { program := "ytcpponjknmkfaaa", sum := "a802f2b633091d9ed261625ee94dbebb14ff712e4514e9f5f85277914e53769a", func := "hedgewright/hedgkeep.ShapeWays", spec := "shapeWays", unfollowed := true, recurses := true, apart := false }
def ShapeWaysSaid : Prop := shapeWaysRow.holds Try.pinned (OpenSpec.ofChange shapeWaysSpec)

/-- ITS FALSE NEIGHBOUR: 'it returns false'. Refute it at one input. -/
def shapeWaysWrong : ChangeSpec := { name := "shapeWays", fn := fun _ => fun
  | [d] => { results := [.lit (.bool false)], args := [d] }
  | _ => none }
def ShapeWaysWrongFalsely : Prop := shapeWaysRow.holds Try.pinned (OpenSpec.ofChange shapeWaysWrong)

/-- 'hedgkeep.ShapeSums': WHATEVER THE INPUT: true; the input reads as it did. -/
def shapeSumsSpec : ChangeSpec := { name := "shapeSums", fn := fun _ => fun
  | [d] => { results := [.lit (.bool true)], args := [d] }
  | _ => none }
def shapeSumsRow : OpenClaim := { program := "ytcpponjknmkfaaa", sum := "a802f2b633091d9ed261625ee94dbebb14ff712e4514e9f5f85277914e53769a", func := "hedgewright/hedgkeep.ShapeSums", spec := "shapeSums", unfollowed := true, recurses := true, apart := false }
def ShapeSumsSaid : Prop := shapeSumsRow.holds Try.pinned (OpenSpec.ofChange shapeSumsSpec)

/-- ITS FALSE NEIGHBOUR: 'it returns false'. Refute it at one input. -/
def shapeSumsWrong : ChangeSpec := { name := "shapeSums", fn := fun _ => fun
  | [d] => { results := [.lit (.bool false)], args := [d] }
  | _ => none }
def ShapeSumsWrongFalsely : Prop := shapeSumsRow.holds Try.pinned (OpenSpec.ofChange shapeSumsWrong)

/-- 'hedglaw.ShapeTurns': WHATEVER THE INPUT: true; the input reads as it did. -/
def shapeTurnsSpec : ChangeSpec := { name := "shapeTurns", fn := fun _ => fun
  | [d1, d2, d3] => { results := [.lit (.bool true)], args := [d1, d2, d3] }
  | _ => none }
def shapeTurnsRow : OpenClaim := { program := "ytcpponjknmkfaaa", sum := "a802f2b633091d9ed261625ee94dbebb14ff712e4514e9f5f85277914e53769a", func := "hedgewright/hedglaw.ShapeTurns", spec := "shapeTurns", unfollowed := true, recurses := true, apart := false }
def ShapeTurnsSaid : Prop := shapeTurnsRow.holds Try.pinned (OpenSpec.ofChange shapeTurnsSpec)

/-- ITS FALSE NEIGHBOUR: 'it returns false'. Refute it at one input. -/
def shapeTurnsWrong : ChangeSpec := { name := "shapeTurns", fn := fun _ => fun
  | [d1, d2, d3] => { results := [.lit (.bool false)], args := [d1, d2, d3] }
  | _ => none }
def ShapeTurnsWrongFalsely : Prop := shapeTurnsRow.holds Try.pinned (OpenSpec.ofChange shapeTurnsWrong)

/-- 'hedgkeep.ShapeCatalan': WHATEVER THE INPUT: true; the input reads as it did. -/
def shapeCatalanSpec : ChangeSpec := { name := "shapeCatalan", fn := fun _ => fun
  | [d] => { results := [.lit (.bool true)], args := [d] }
  | _ => none }
def shapeCatalanRow : OpenClaim := { program := "ytcpponjknmkfaaa", sum := "a802f2b633091d9ed261625ee94dbebb14ff712e4514e9f5f85277914e53769a", func := "hedgewright/hedgkeep.ShapeCatalan", spec := "shapeCatalan", unfollowed := true, recurses := true, apart := false }
def ShapeCatalanSaid : Prop := shapeCatalanRow.holds Try.pinned (OpenSpec.ofChange shapeCatalanSpec)

/-- ITS FALSE NEIGHBOUR: 'it returns false'. Refute it at one input. -/
def shapeCatalanWrong : ChangeSpec := { name := "shapeCatalan", fn := fun _ => fun
  | [d] => { results := [.lit (.bool false)], args := [d] }
  | _ => none }
def ShapeCatalanWrongFalsely : Prop := shapeCatalanRow.holds Try.pinned (OpenSpec.ofChange shapeCatalanWrong)

/- THE SECOND FORM. 'bulk': how many values and letters a reading holds, each counted each time it is reached (what is shared counts as often as it is met; a slice's spare places count too). A statement '..UptoSaid' is the law's where the arguments, and the package variables that the reading takes, are together of bulk at most 1048576: NARROWER than '..Said'. Prove '..Said' where nothing that the law and all that it calls make is longer than what came in: it says more and counts as full. Else prove '..UptoSaid'. A law counts once. -/
mutual
def uptoBulk {H : Type} : DataW H → Nat
  | .lit (.string bytes) => bytes.length + 1
  | .lit _ => 1
  | .nil => 1
  | .ptr d => uptoBulk d + 1
  | .slice elems spare => uptoBulkAll elems + uptoBulkAll spare + 1
  | .agg parts => uptoBulkAll parts + 1
  | .iface _ d => uptoBulk d + 1
  | .map entries => uptoBulkEntries entries + 1
  | .held _ => 1
def uptoBulkAll {H : Type} : List (DataW H) → Nat
  | [] => 0
  | d :: r => uptoBulk d + uptoBulkAll r
def uptoBulkEntries {H : Type} : List (Lit × DataW H) → Nat
  | [] => 0
  | x :: r => uptoBulkEntry x + uptoBulkEntries r
def uptoBulkEntry {H : Type} : Lit × DataW H → Nat
  | (.string bytes, d) => bytes.length + uptoBulk d + 1
  | (_, d) => uptoBulk d + 1
 end
def uptoSmall : (H : Type) → List (DataW H) → Bool := fun _ ds => decide (uptoBulkAll ds ≤ 1048576)
def OpenSpec.upto (s : _root_.Go.ChangeSpec) : _root_.Go.OpenSpec := { _root_.Go.OpenSpec.ofChange s with cond := some uptoSmall }

/-- 'hedglaw.ShapeSays', WHERE WHAT IT READS IS OF BULK AT MOST 1048576: true; the input reads as it did. -/
def shapeSaysUptoRow : OpenClaim := { program := "ytcpponjknmkfaaa", sum := "a802f2b633091d9ed261625ee94dbebb14ff712e4514e9f5f85277914e53769a", func := "hedgewright/hedglaw.ShapeSays", spec := "shapeSays", unfollowed := true, recurses := true, apart := false, narrowed := true }
def ShapeSaysUptoSaid : Prop := shapeSaysUptoRow.holds Try.pinned (OpenSpec.upto shapeSaysSpec)

/-- 'hedgkeep.ShapeBack', WHERE WHAT IT READS IS OF BULK AT MOST 1048576: true; the input reads as it did. -/
def shapeBackUptoRow : OpenClaim := { program := "ytcpponjknmkfaaa", sum := "a802f2b633091d9ed261625ee94dbebb14ff712e4514e9f5f85277914e53769a", func := "hedgewright/hedgkeep.ShapeBack", spec := "shapeBack", unfollowed := true, recurses := true, apart := false, narrowed := true }
def ShapeBackUptoSaid : Prop := shapeBackUptoRow.holds Try.pinned (OpenSpec.upto shapeBackSpec)

/-- 'hedgkeep.ShapeTurned', WHERE WHAT IT READS IS OF BULK AT MOST 1048576: true; the input reads as it did. -/
def shapeTurnedUptoRow : OpenClaim := { program := "ytcpponjknmkfaaa", sum := "a802f2b633091d9ed261625ee94dbebb14ff712e4514e9f5f85277914e53769a", func := "hedgewright/hedgkeep.ShapeTurned", spec := "shapeTurned", unfollowed := true, recurses := true, apart := false, narrowed := true }
def ShapeTurnedUptoSaid : Prop := shapeTurnedUptoRow.holds Try.pinned (OpenSpec.upto shapeTurnedSpec)

/-- 'hedgkeep.ShapeWays', WHERE WHAT IT READS IS OF BULK AT MOST 1048576: true; the input reads as it did. -/
def shapeWaysUptoRow : OpenClaim := { program := "ytcpponjknmkfaaa", sum := "a802f2b633091d9ed261625ee94dbebb14ff712e4514e9f5f85277914e53769a", func := "hedgewright/hedgkeep.ShapeWays", spec := "shapeWays", unfollowed := true, recurses := true, apart := false, narrowed := true }
def ShapeWaysUptoSaid : Prop := shapeWaysUptoRow.holds Try.pinned (OpenSpec.upto shapeWaysSpec)

/-- 'hedgkeep.ShapeSums', WHERE WHAT IT READS IS OF BULK AT MOST 1048576: true; the input reads as it did. -/
def shapeSumsUptoRow : OpenClaim := { program := "ytcpponjknmkfaaa", sum := "a802f2b633091d9ed261625ee94dbebb14ff712e4514e9f5f85277914e53769a", func := "hedgewright/hedgkeep.ShapeSums", spec := "shapeSums", unfollowed := true, recurses := true, apart := false, narrowed := true }
def ShapeSumsUptoSaid : Prop := shapeSumsUptoRow.holds Try.pinned (OpenSpec.upto shapeSumsSpec)

/-- 'hedglaw.ShapeTurns', WHERE WHAT IT READS IS OF BULK AT MOST 1048576: true; the input reads as it did. -/
def shapeTurnsUptoRow : OpenClaim := { program := "ytcpponjknmkfaaa", sum := "a802f2b633091d9ed261625ee94dbebb14ff712e4514e9f5f85277914e53769a", func := "hedgewright/hedglaw.ShapeTurns", spec := "shapeTurns", unfollowed := true, recurses := true, apart := false, narrowed := true }
def ShapeTurnsUptoSaid : Prop := shapeTurnsUptoRow.holds Try.pinned (OpenSpec.upto shapeTurnsSpec)

/-- 'hedgkeep.ShapeCatalan', WHERE WHAT IT READS IS OF BULK AT MOST 1048576: true; the input reads as it did. -/
def shapeCatalanUptoRow : OpenClaim := { program := "ytcpponjknmkfaaa", sum := "a802f2b633091d9ed261625ee94dbebb14ff712e4514e9f5f85277914e53769a", func := "hedgewright/hedgkeep.ShapeCatalan", spec := "shapeCatalan", unfollowed := true, recurses := true, apart := false, narrowed := true }
def ShapeCatalanUptoSaid : Prop := shapeCatalanUptoRow.holds Try.pinned (OpenSpec.upto shapeCatalanSpec)

end Rows
end Go.Proofs.Ytcpponjknmkfaaa
