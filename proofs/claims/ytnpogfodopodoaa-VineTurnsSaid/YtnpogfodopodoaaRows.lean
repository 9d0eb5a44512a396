/-
  No cell of these rows narrows 'for every input' (looked for: loops, veiled, ifaces, maps, wideKeys, modest, calm, conditions, laid).
  DERIVED. THE GIVEN ROWS OF THIS SEAT. 5 by the template 'for every input the law returns true; each argument reads behind the call as it read before'; 0 by the template 'total and deterministic' (their statements: YtnpogfodopodoaaTotals.lean).
  GIVEN WITH THE SEED: the statements are not yours to turn. If you find one false, say at which input.
  Laid BY PROGRAM, IN A SANDBOX (cutbox-rows.mjs): the forced cells as the released guide's own fill.sh prints them over the translation 27228d23c0af4b94… (all of the seat's roots in one cut). By AI agents, Wed Nov 11 2026. No macro, syntax, notation, axiom, sorry.
-/
import Derived.Test.YtnpogfodopodoaaChecked
import GoSem.Claim
import GoSem.ClaimJoined
import GoSem.ClaimMapViews
import Derived.JoinedTies
import Derived.KernelRfl
namespace Go.Proofs.Ytnpogfodopodoaa
/- THE CELL 'sum', in the pinned program and in every row, IS THE sha256 OF THE DUMP (.gsa) THAT YtnpogfodopodoaaProg.lean LOADS. Nothing in Lean hashes anything: it is a label: what it is worth is what the hold of that sum in a sandbox is worth. -/
noncomputable def Try.pinned : Pinned := { name := "ytnpogfodopodoaa", sum := "27228d23c0af4b9450925d475819a7153f92e683afbc9e58bd1d4b4e6eea66aa", checked := Try.checked }
namespace Rows
def none {H : Type} : Left H := { results := [], args := [] }

/-- 'hedglaw.VineSays': WHATEVER THE INPUT: true; the input reads as it did. -/
def vineSaysSpec : ChangeSpec := { name := "vineSays", fn := fun _ => fun
  | [d] => { results := [.lit (.bool true)], args := [d] }
  | _ => none }
def vineSaysRow : OpenClaim := { program := "ytnpogfodopodoaa", sum := "27228d23c0af4b9450925d475819a7153f92e683afbc9e58bd1d4b4e6eea66aa", func := "hedgewright/hedglaw.VineSays", spec := "vineSays", unfollowed := true, recurses := true, apart := false }
def VineSaysSaid : Prop := vineSaysRow.holds Try.pinned (OpenSpec.ofChange vineSaysSpec)

/-- ITS FALSE NEIGHBOUR: 'it returns false'. Refute it at one input. -/
def vineSaysWrong : ChangeSpec := { name := "vineSays", fn := fun _ => fun
  | [d] => { results := [.lit (.bool false)], args := [d] }
  | _ => none }
def VineSaysWrongFalsely : Prop := vineSaysRow.holds Try.pinned (OpenSpec.ofChange vineSaysWrong)

/-- 'hedgkeep.VineFull': WHATEVER THE INPUT: true; the input reads as it did. -/
def vineFullSpec : ChangeSpec := { name := "vineFull", fn := fun _ => fun
  | [d] => { results := [.lit (.bool true)], args := [d] }
  | _ => none }
def vineFullRow : OpenClaim := { program := "ytnpogfodopodoaa", sum := "27228d23c0af4b9450925d475819a7153f92e683afbc9e58bd1d4b4e6eea66aa", func := "hedgewright/hedgkeep.VineFull", spec := "vineFull", unfollowed := true, recurses := true, apart := false }
def VineFullSaid : Prop := vineFullRow.holds Try.pinned (OpenSpec.ofChange vineFullSpec)

/-- ITS FALSE NEIGHBOUR: 'it returns false'. Refute it at one input. -/
def vineFullWrong : ChangeSpec := { name := "vineFull", fn := fun _ => fun
  | [d] => { results := [.lit (.bool false)], args := [d] }
  | _ => none }
def VineFullWrongFalsely : Prop := vineFullRow.holds Try.pinned (OpenSpec.ofChange vineFullWrong)

/-- 'hedgkeep.VineEven': WHATEVER THE INPUT: true; the input reads as it did. -/
def vineEvenSpec : ChangeSpec := { name := "vineEven", fn := fun _ => fun
  | [d] => { results := [.lit (.bool true)], args := [d] }
  | _ => none }
def vineEvenRow : OpenClaim := { program := "ytnpogfodopodoaa", sum := "27228d23c0af4b9450925d475819a7153f92e683afbc9e58bd1d4b4e6eea66aa", func := "hedgewright/hedgkeep.VineEven", spec := "vineEven", unfollowed := true, recurses := true, apart := false }
def VineEvenSaid : Prop := vineEvenRow.holds Try.pinned (OpenSpec.ofChange vineEvenSpec)

/-- ITS FALSE NEIGHBOUR: 'it returns false'. Refute it at one input. -/
def vineEvenWrong : ChangeSpec := { name := "vineEven", fn := fun _ => fun
  | [d] => { results := [.lit (.bool false)], args := [d] }
  | _ => none }
def VineEvenWrongFalsely : Prop := vineEvenRow.holds Try.pinned (OpenSpec.ofChange vineEvenWrong)

/-- 'hedgkeep.VineTurns': WHATEVER THE INPUT: true; the input reads as it did. -/
def vineTurnsSpec : ChangeSpec := { name := "vineTurns", fn := fun _ => fun
  | [d] => { results := [.lit (.bool true)], args := [d] }
  | _ => none }
def vineTurnsRow : OpenClaim := { program := "ytnpogfodopodoaa", sum := "27228d23c0af4b9450925d475819a7153f92e683afbc9e58bd1d4b4e6eea66aa", func := "hedgewright/hedgkeep.VineTurns", spec := "vineTurns", unfollowed := true, recurses := true, apart := false }
def VineTurnsSaid : Prop := vineTurnsRow.holds Try.pinned (OpenSpec.ofChange vineTurnsSpec)

/-- ITS FALSE NEIGHBOUR: 'it returns false'. Refute it at one input. -/
def vineTurnsWrong : ChangeSpec := { name := "vineTurns", fn := fun _ => fun
  | [d] => { results := [.lit (.bool false)], args := [d] }
  | _ => none }
def VineTurnsWrongFalsely : Prop := vineTurnsRow.holds Try.pinned (OpenSpec.ofChange vineTurnsWrong)

/-- 'hedgkeep.VineOne': WHATEVER THE INPUT: true; the input reads as it did. -/
def vineOneSpec : ChangeSpec := { name := "vineOne", fn := fun _ => fun
  | [d1, d2] => { results := [.lit (.bool true)], args := [d1, d2] }
  | _ => none }
def vineOneRow : OpenClaim := { program := "ytnpogfodopodoaa", sum := "27228d23c0af4b9450925d475819a7153f92e683afbc9e58bd1d4b4e6eea66aa", func := "hedgewright/hedgkeep.VineOne", spec := "vineOne", unfollowed := true, recurses := true, apart := false }
def VineOneSaid : Prop := vineOneRow.holds Try.pinned (OpenSpec.ofChange vineOneSpec)

/-- ITS FALSE NEIGHBOUR: 'it returns false'. Refute it at one input. -/
def vineOneWrong : ChangeSpec := { name := "vineOne", fn := fun _ => fun
  | [d1, d2] => { results := [.lit (.bool false)], args := [d1, d2] }
  | _ => none }
def VineOneWrongFalsely : Prop := vineOneRow.holds Try.pinned (OpenSpec.ofChange vineOneWrong)

/- THE SECOND FORM. 'bulk': how many values and letters a reading holds, each counted each time it is reached (what is shared counts as often as it is met; a slice's spare places count too). A statement '..UptoSaid' is the law's where the arguments, and the package variables that the reading takes, are together of bulk at most 1048576: NARROWER than '..Said'. Prove '..Said' where nothing that the law and all that it calls make is longer than what came in: it says more and counts as full. Else prove '..UptoSaid'. A law counts once. -/
mutual
def uptoBulk {H : Type} : DataW H → Nat
  | .lit (.string bytes) => bytes.length + 1
  | .lit _ => 1
  | .nil => 1
  | .ptr d => uptoBulk d + 1
  | .slice elems spare => uptoBulkAll elems + uptoBulkAll spare + 1
  | .agg parts => uptoBulkAll parts + 1
  | .iface _ d => uptoBulk d + 1
  | .map entries => uptoBulkEntries entries + 1
  | .held _ => 1
def uptoBulkAll {H : Type} : List (DataW H) → Nat
  | [] => 0
  | d :: r => uptoBulk d + uptoBulkAll r
def uptoBulkEntries {H : Type} : List (Lit × DataW H) → Nat
  | [] => 0
  | x :: r => uptoBulkEntry x + uptoBulkEntries r
def uptoBulkEntry {H : Type} : Lit × DataW H → Nat
  | (.string bytes, d) => bytes.length + uptoBulk d + 1
  | (_, d) => uptoBulk d + 1
 end
def uptoSmall : (H : Type) → List (DataW H) → Bool := fun _ ds => decide (uptoBulkAll ds ≤ 1048576)
def OpenSpec.upto (s : _root_.Go.ChangeSpec) : _root_.Go.OpenSpec := { _root_.Go.OpenSpec.ofChange s with cond := some uptoSmall }

/-- 'hedglaw.VineSays', WHERE WHAT IT READS IS OF BULK AT MOST 1048576: true; the input reads as it did. -/
def vineSaysUptoRow : OpenClaim := { program := "ytnpogfodopodoaa", sum := "27228d23c0af4b9450925d475819a7153f92e683afbc9e58bd1d4b4e6eea66aa", func := "hedgewright/hedglaw.VineSays", spec := "vineSays", unfollowed := true, recurses := true, apart := false, narrowed := true }
def VineSaysUptoSaid : Prop := vineSaysUptoRow.holds Try.pinned (OpenSpec.upto vineSaysSpec)

/-- 'hedgkeep.VineFull', WHERE WHAT IT READS IS OF BULK AT MOST 1048576: true; the input reads as it did. -/
def vineFullUptoRow : OpenClaim := { program := "ytnpogfodopodoaa", sum := "27228d23c0af4b9450925d475819a7153f92e683afbc9e58bd1d4b4e6eea66aa", func := "hedgewright/hedgkeep.VineFull", spec := "vineFull", unfollowed := true, recurses := true, apart := false, narrowed := true }
def VineFullUptoSaid : Prop := vineFullUptoRow.holds Try.pinned (OpenSpec.upto vineFullSpec)

/-- 'hedgkeep.VineEven', WHERE WHAT IT READS IS OF BULK AT MOST 1048576: true; the input reads as it did. -/
def vineEvenUptoRow : OpenClaim := { program := "ytnpogfodopodoaa", sum := "27228d23c0af4b9450925d475819a7153f92e683afbc9e58bd1d4b4e6eea66aa", func := "hedgewright/hedgkeep.VineEven", spec := "vineEven", unfollowed := true, recurses := true, apart := false, narrowed := true }
def VineEvenUptoSaid : Prop := vineEvenUptoRow.holds Try.pinned (OpenSpec.upto vineEvenSpec)

/-- 'hedgkeep.VineTurns', WHERE WHAT IT READS IS OF BULK AT MOST 1048576: true; the input reads as it did. -/
def vineTurnsUptoRow : OpenClaim := { program := "ytnpogfodopodoaa", sum := "27228d23c0af4b9450925d475819a7153f92e683afbc9e58bd1d4b4e6eea66aa", func := "hedgewright/hedgkeep.VineTurns", spec := "vineTurns", unfollowed := true, recurses := true, apart := false, narrowed := true }
def VineTurnsUptoSaid : Prop := vineTurnsUptoRow.holds Try.pinned (OpenSpec.upto vineTurnsSpec)

/-- 'hedgkeep.VineOne', WHERE WHAT IT READS IS OF BULK AT MOST 1048576: true; the input reads as it did. -/
def vineOneUptoRow : OpenClaim := { program := "ytnpogfodopodoaa", sum := "27228d23c0af4b9450925d475819a7153f92e683afbc9e58bd1d4b4e6eea66aa", func := "hedgewright/hedgkeep.VineOne", spec := "vineOne", unfollowed := true, recurses := true, apart := false, narrowed := true }
def VineOneUptoSaid : Prop := vineOneUptoRow.holds Try.pinned (OpenSpec.upto vineOneSpec)

end Rows
end Go.Proofs.Ytnpogfodopodoaa
