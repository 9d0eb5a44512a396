/-
  No cell of these rows narrows 'for every input' (looked for: loops, veiled, ifaces, maps, wideKeys, modest, calm, conditions, laid).
  DERIVED. THE GIVEN ROWS OF THIS SEAT. 5 by the template 'for every input the law returns true; each argument reads behind the call as it read before'; 0 by the template 'total and deterministic' (their statements: YtpmhpogkpkhbfaaTotals.lean).
  GIVEN WITH THE SEED: the statements are not yours to turn. If you find one false, say at which input.
  Laid BY PROGRAM, IN A SANDBOX (cutbox-rows.mjs): the forced cells as the released guide's own fill.sh prints them over the translation 4a349ad30def5dd2… (all of the seat's roots in one cut). By AI agents, Wed Nov 11 2026. No macro, syntax, notation, axiom, sorry.
-/
import Derived.Test.YtpmhpogkpkhbfaaChecked
import GoSem.Claim
import GoSem.ClaimJoined
import GoSem.ClaimMapViews
import Derived.JoinedTies
import Derived.KernelRfl
namespace Go.Proofs.Ytpmhpogkpkhbfaa
/- THE CELL 'sum', in the pinned program and in every row, IS THE sha256 OF THE DUMP (.gsa) THAT YtpmhpogkpkhbfaaProg.lean LOADS. Nothing in Lean hashes anything: it is a label: what it is worth is what the hold of that sum in a sandbox is worth. -/
noncomputable def Try.pinned : Pinned := { name := "ytpmhpogkpkhbfaa", sum := "4a349ad30def5dd2b8d542f24c542849bedb542e1d5b03d0c22993ab04b68420", checked := Try.checked }
namespace Rows
def none {H : Type} : Left H := { results := [], args := [] }

/-- 'hedgkeep.BestTurned': WHATEVER THE INPUT: true; the input reads as it did. -/
def bestTurnedSpec : ChangeSpec := { name := "bestTurned", fn := fun _ => fun
  | [d1, d2] => { results := [.lit (.bool true)], args := [d1, d2] }
  | _ => none }
def bestTurnedRow : OpenClaim := { program := "ytpmhpogkpkhbfaa", sum := "4a349ad30def5dd2b8d542f24c542849bedb542e1d5b03d0c22993ab04b68420", func := "hedgewright/hedgkeep.BestTurned", spec := "bestTurned", recurses := true, plainKeys := false, apart := false }
def BestTurnedSaid : Prop := bestTurnedRow.holds Try.pinned (OpenSpec.ofChange bestTurnedSpec)

/-- ITS FALSE NEIGHBOUR: 'it returns false'. Refute it at one input. -/
def bestTurnedWrong : ChangeSpec := { name := "bestTurned", fn := fun _ => fun
  | [d1, d2] => { results := [.lit (.bool false)], args := [d1, d2] }
  | _ => none }
def BestTurnedWrongFalsely : Prop := bestTurnedRow.holds Try.pinned (OpenSpec.ofChange bestTurnedWrong)

/-- 'hedgkeep.BestMore': WHATEVER THE INPUT: true; the input reads as it did. -/
def bestMoreSpec : ChangeSpec := { name := "bestMore", fn := fun _ => fun
  | [d1, d2, d3, d4, d5] => { results := [.lit (.bool true)], args := [d1, d2, d3, d4, d5] }
  | _ => none }
def bestMoreRow : OpenClaim := { program := "ytpmhpogkpkhbfaa", sum := "4a349ad30def5dd2b8d542f24c542849bedb542e1d5b03d0c22993ab04b68420", func := "hedgewright/hedgkeep.BestMore", spec := "bestMore", recurses := true, plainKeys := false, apart := false }
def BestMoreSaid : Prop := bestMoreRow.holds Try.pinned (OpenSpec.ofChange bestMoreSpec)

/-- ITS FALSE NEIGHBOUR: 'it returns false'. Refute it at one input. -/
def bestMoreWrong : ChangeSpec := { name := "bestMore", fn := fun _ => fun
  | [d1, d2, d3, d4, d5] => { results := [.lit (.bool false)], args := [d1, d2, d3, d4, d5] }
  | _ => none }
def BestMoreWrongFalsely : Prop := bestMoreRow.holds Try.pinned (OpenSpec.ofChange bestMoreWrong)

/-- 'hedgkeep.BestRoots': WHATEVER THE INPUT: true; the input reads as it did. -/
def bestRootsSpec : ChangeSpec := { name := "bestRoots", fn := fun _ => fun
  | [d1, d2] => { results := [.lit (.bool true)], args := [d1, d2] }
  | _ => none }
def bestRootsRow : OpenClaim := { program := "ytpmhpogkpkhbfaa", sum := "4a349ad30def5dd2b8d542f24c542849bedb542e1d5b03d0c22993ab04b68420", func := "hedgewright/hedgkeep.BestRoots", spec := "bestRoots", unfollowed := true, recurses := true, plainKeys := false, apart := false }
def BestRootsSaid : Prop := bestRootsRow.holds Try.pinned (OpenSpec.ofChange bestRootsSpec)

/-- ITS FALSE NEIGHBOUR: 'it returns false'. Refute it at one input. -/
def bestRootsWrong : ChangeSpec := { name := "bestRoots", fn := fun _ => fun
  | [d1, d2] => { results := [.lit (.bool false)], args := [d1, d2] }
  | _ => none }
def BestRootsWrongFalsely : Prop := bestRootsRow.holds Try.pinned (OpenSpec.ofChange bestRootsWrong)

/-- 'hedglaw.BestSays': WHATEVER THE INPUT: true; the input reads as it did. -/
def bestSaysSpec : ChangeSpec := { name := "bestSays", fn := fun _ => fun
  | [d1, d2, d3] => { results := [.lit (.bool true)], args := [d1, d2, d3] }
  | _ => none }
def bestSaysRow : OpenClaim := { program := "ytpmhpogkpkhbfaa", sum := "4a349ad30def5dd2b8d542f24c542849bedb542e1d5b03d0c22993ab04b68420", func := "hedgewright/hedglaw.BestSays", spec := "bestSays", recurses := true, plainKeys := false, apart := false }
def BestSaysSaid : Prop := bestSaysRow.holds Try.pinned (OpenSpec.ofChange bestSaysSpec)

/-- ITS FALSE NEIGHBOUR: 'it returns false'. Refute it at one input. -/
def bestSaysWrong : ChangeSpec := { name := "bestSays", fn := fun _ => fun
  | [d1, d2, d3] => { results := [.lit (.bool false)], args := [d1, d2, d3] }
  | _ => none }
def BestSaysWrongFalsely : Prop := bestSaysRow.holds Try.pinned (OpenSpec.ofChange bestSaysWrong)

/-- 'hedgkeep.BestLeast': WHATEVER THE INPUT: true; the input reads as it did. -/
def bestLeastSpec : ChangeSpec := { name := "bestLeast", fn := fun _ => fun
  | [d1, d2] => { results := [.lit (.bool true)], args := [d1, d2] }
  | _ => none }
def bestLeastRow : OpenClaim := { program := "ytpmhpogkpkhbfaa", sum := "4a349ad30def5dd2b8d542f24c542849bedb542e1d5b03d0c22993ab04b68420", func := "hedgewright/hedgkeep.BestLeast", spec := "bestLeast", unfollowed := true, recurses := true, plainKeys := false, apart := false }
def BestLeastSaid : Prop := bestLeastRow.holds Try.pinned (OpenSpec.ofChange bestLeastSpec)

/-- ITS FALSE NEIGHBOUR: 'it returns false'. Refute it at one input. -/
def bestLeastWrong : ChangeSpec := { name := "bestLeast", fn := fun _ => fun
  | [d1, d2] => { results := [.lit (.bool false)], args := [d1, d2] }
  | _ => none }
def BestLeastWrongFalsely : Prop := bestLeastRow.holds Try.pinned (OpenSpec.ofChange bestLeastWrong)

/- THE SECOND FORM. 'bulk': how many values and letters a reading holds, each counted each time it is reached (what is shared counts as often as it is met; a slice's spare places count too). A statement '..UptoSaid' is the law's where the arguments, and the package variables that the reading takes, are together of bulk at most 1048576: NARROWER than '..Said'. Prove '..Said' where nothing that the law and all that it calls make is longer than what came in: it says more and counts as full. Else prove '..UptoSaid'. A law counts once. -/
mutual
def uptoBulk {H : Type} : DataW H → Nat
  | .lit (.string bytes) => bytes.length + 1
  | .lit _ => 1
  | .nil => 1
  | .ptr d => uptoBulk d + 1
  | .slice elems spare => uptoBulkAll elems + uptoBulkAll spare + 1
  | .agg parts => uptoBulkAll parts + 1
  | .iface _ d => uptoBulk d + 1
  | .map entries => uptoBulkEntries entries + 1
  | .held _ => 1
def uptoBulkAll {H : Type} : List (DataW H) → Nat
  | [] => 0
  | d :: r => uptoBulk d + uptoBulkAll r
def uptoBulkEntries {H : Type} : List (Lit × DataW H) → Nat
  | [] => 0
  | x :: r => uptoBulkEntry x + uptoBulkEntries r
def uptoBulkEntry {H : Type} : Lit × DataW H → Nat
  | (.string bytes, d) => bytes.length + uptoBulk d + 1
  | (_, d) => uptoBulk d + 1
 end
def uptoSmall : (H : Type) → List (DataW H) → Bool := fun _ ds => decide (uptoBulkAll ds ≤ 1048576)
def OpenSpec.upto (s : _root_.Go.ChangeSpec) : _root_.Go.OpenSpec := { _root_.Go.OpenSpec.ofChange s with cond := some uptoSmall }

/-- 'hedgkeep.BestTurned', WHERE WHAT IT READS IS OF BULK AT MOST 1048576: true; the input reads as it did. -/
def bestTurnedUptoRow : OpenClaim := { program := "ytpmhpogkpkhbfaa", sum := "4a349ad30def5dd2b8d542f24c542849bedb542e1d5b03d0c22993ab04b68420", func := "hedgewright/hedgkeep.BestTurned", spec := "bestTurned", recurses := true, plainKeys := false, apart := false, narrowed := true }
def BestTurnedUptoSaid : Prop := bestTurnedUptoRow.holds Try.pinned (OpenSpec.upto bestTurnedSpec)

/-- 'hedgkeep.BestMore', WHERE WHAT IT READS IS OF BULK AT MOST 1048576: true; the input reads as it did. -/
def bestMoreUptoRow : OpenClaim := { program := "ytpmhpogkpkhbfaa", sum := "4a349ad30def5dd2b8d542f24c542849bedb542e1d5b03d0c22993ab04b68420", func := "hedgewright/hedgkeep.BestMore", spec := "bestMore", recurses := true, plainKeys := false, apart := false, narrowed := true }
def BestMoreUptoSaid : Prop := bestMoreUptoRow.holds Try.pinned (OpenSpec.upto bestMoreSpec)

/-- 'hedgkeep.BestRoots', WHERE WHAT IT READS IS OF BULK AT MOST 1048576: true; the input reads as it did. -/
def bestRootsUptoRow : OpenClaim := { program := "ytpmhpogkpkhbfaa", sum := "4a349ad30def5dd2b8d542f24c542849bedb542e1d5b03d0c22993ab04b68420", func := "hedgewright/hedgkeep.BestRoots", spec := "bestRoots", unfollowed := true, recurses := true, plainKeys := false, apart := false, narrowed := true }
def BestRootsUptoSaid : Prop := bestRootsUptoRow.holds Try.pinned (OpenSpec.upto bestRootsSpec)

/-- 'hedglaw.BestSays', WHERE WHAT IT READS IS OF BULK AT MOST 1048576: true; the input reads as it did. -/
def bestSaysUptoRow : OpenClaim := { program := "ytpmhpogkpkhbfaa", sum := "4a349ad30def5dd2b8d542f24c542849bedb542e1d5b03d0c22993ab04b68420", func := "hedgewright/hedglaw.BestSays", spec := "bestSays", recurses := true, plainKeys := false, apart := false, narrowed := true }
def BestSaysUptoSaid : Prop := bestSaysUptoRow.holds Try.pinned (OpenSpec.upto bestSaysSpec)

/-- 'hedgkeep.BestLeast', WHERE WHAT IT READS IS OF BULK AT MOST 1048576: true; the input reads as it did. -/
def bestLeastUptoRow : OpenClaim := { program := "ytpmhpogkpkhbfaa", sum := "4a349ad30def5dd2b8d542f24c542849bedb542e1d5b03d0c22993ab04b68420", func := "hedgewright/hedgkeep.BestLeast", spec := "bestLeast", unfollowed := true, recurses := true, plainKeys := false, apart := false, narrowed := true }
def BestLeastUptoSaid : Prop := bestLeastUptoRow.holds Try.pinned (OpenSpec.upto bestLeastSpec)

end Rows
end Go.Proofs.Ytpmhpogkpkhbfaa
