/-
  No cell of these rows narrows 'for every input' (looked for: loops, veiled, ifaces, maps, wideKeys, modest, calm, conditions, laid).
  DERIVED. THE GIVEN ROWS OF THIS SEAT. 7 by the template 'for every input the law returns true; each argument reads behind the call as it read before'; 0 by the template 'total and deterministic' (their statements: YtkfgpoeodpndlaaTotals.lean).
  GIVEN WITH THE SEED: the statements are not yours to turn. If you find one false, say at which input.
  Laid BY PROGRAM, IN A SANDBOX (cutbox-rows.mjs): the forced cells as the released guide's own fill.sh prints them over the translation 94d092a9ce7d7cd2… (all of the seat's roots in one cut). By AI agents, Wed Nov 11 2026. No macro, syntax, notation, axiom, sorry.
-/
import Derived.Test.YtkfgpoeodpndlaaChecked
import GoSem.Claim
import GoSem.ClaimJoined
import GoSem.ClaimMapViews
import Derived.JoinedTies
import Derived.KernelRfl
namespace Go.Proofs.Ytkfgpoeodpndlaa
/- THE CELL 'sum', in the pinned program and in every row, IS THE sha256 OF THE DUMP (.gsa) THAT YtkfgpoeodpndlaaProg.lean LOADS. Nothing in Lean hashes anything: it is a label: what it is worth is what the hold of that sum in a sandbox is worth. -/
noncomputable def Try.pinned : Pinned := { name := "ytkfgpoeodpndlaa", sum := "94d092a9ce7d7cd28bd06effe039343cd9efde644a99aacebf60cd4a7b6c2698", checked := Try.checked }
namespace Rows
def none {H : Type} : Left H := { results := [], args := [] }

/-- 'hedglaw.PlainDoes': WHATEVER THE INPUT: true; the input reads as it did. -/
def plainDoesSpec : ChangeSpec := { name := "plainDoes", fn := fun _ => fun
  | [d1, d2] => { results := [.lit (.bool true)], args := [d1, d2] }
  | _ => none }
def plainDoesRow : OpenClaim := { program := "ytkfgpoeodpndlaa", sum := "94d092a9ce7d7cd28bd06effe039343cd9efde644a99aacebf60cd4a7b6c2698", func := "hedgewright/hedglaw.PlainDoes", spec := "plainDoes", inPlace := ["slices.overlaps[hedgewright/api.Pair]"], unfollowed := true, recurses := true, apart := false }
def PlainDoesSaid : Prop := plainDoesRow.holds Try.pinned (OpenSpec.ofChange plainDoesSpec)

/-- ITS FALSE NEIGHBOUR: 'it returns false'. Refute it at one input. -/
def plainDoesWrong : ChangeSpec := { name := "plainDoes", fn := fun _ => fun
  | [d1, d2] => { results := [.lit (.bool false)], args := [d1, d2] }
  | _ => none }
def PlainDoesWrongFalsely : Prop := plainDoesRow.holds Try.pinned (OpenSpec.ofChange plainDoesWrong)

/-- 'hedgkeep.PlainPuts': WHATEVER THE INPUT: true; the input reads as it did. -/
def plainPutsSpec : ChangeSpec := { name := "plainPuts", fn := fun _ => fun
  | [d1, d2, d3, d4] => { results := [.lit (.bool true)], args := [d1, d2, d3, d4] }
  | _ => none }
def plainPutsRow : OpenClaim := { program := "ytkfgpoeodpndlaa", sum := "94d092a9ce7d7cd28bd06effe039343cd9efde644a99aacebf60cd4a7b6c2698", func := "hedgewright/hedgkeep.PlainPuts", spec := "plainPuts", inPlace := ["slices.overlaps[hedgewright/api.Pair]"], unfollowed := true, recurses := true, apart := false }
def PlainPutsSaid : Prop := plainPutsRow.holds Try.pinned (OpenSpec.ofChange plainPutsSpec)

/-- ITS FALSE NEIGHBOUR: 'it returns false'. Refute it at one input. -/
def plainPutsWrong : ChangeSpec := { name := "plainPuts", fn := fun _ => fun
  | [d1, d2, d3, d4] => { results := [.lit (.bool false)], args := [d1, d2, d3, d4] }
  | _ => none }
def PlainPutsWrongFalsely : Prop := plainPutsRow.holds Try.pinned (OpenSpec.ofChange plainPutsWrong)

/-- 'hedgkeep.PlainCuts': WHATEVER THE INPUT: true; the input reads as it did. -/
def plainCutsSpec : ChangeSpec := { name := "plainCuts", fn := fun _ => fun
  | [d1, d2, d3] => { results := [.lit (.bool true)], args := [d1, d2, d3] }
  | _ => none }
def plainCutsRow : OpenClaim := { program := "ytkfgpoeodpndlaa", sum := "94d092a9ce7d7cd28bd06effe039343cd9efde644a99aacebf60cd4a7b6c2698", func := "hedgewright/hedgkeep.PlainCuts", spec := "plainCuts", inPlace := ["slices.overlaps[hedgewright/api.Pair]"], unfollowed := true, recurses := true, apart := false }
def PlainCutsSaid : Prop := plainCutsRow.holds Try.pinned (OpenSpec.ofChange plainCutsSpec)

/-- ITS FALSE NEIGHBOUR: 'it returns false'. Refute it at one input. -/
def plainCutsWrong : ChangeSpec := { name := "plainCuts", fn := fun _ => fun
  | [d1, d2, d3] => { results := [.lit (.bool false)], args := [d1, d2, d3] }
  | _ => none }
def PlainCutsWrongFalsely : Prop := plainCutsRow.holds Try.pinned (OpenSpec.ofChange plainCutsWrong)

/-- 'hedgkeep.PlainWalk': WHATEVER THE INPUT: true; the input reads as it did. -/
def plainWalkSpec : ChangeSpec := { name := "plainWalk", fn := fun _ => fun
  | [d] => { results := [.lit (.bool true)], args := [d] }
  | _ => none }
def plainWalkRow : OpenClaim := { program := "ytkfgpoeodpndlaa", sum := "94d092a9ce7d7cd28bd06effe039343cd9efde644a99aacebf60cd4a7b6c2698", func := "hedgewright/hedgkeep.PlainWalk", spec := "plainWalk", inPlace := ["slices.overlaps[hedgewright/api.Pair]"], unfollowed := true, recurses := true, apart := false }
def PlainWalkSaid : Prop := plainWalkRow.holds Try.pinned (OpenSpec.ofChange plainWalkSpec)

/-- ITS FALSE NEIGHBOUR: 'it returns false'. Refute it at one input. -/
def plainWalkWrong : ChangeSpec := { name := "plainWalk", fn := fun _ => fun
  | [d] => { results := [.lit (.bool false)], args := [d] }
  | _ => none }
def PlainWalkWrongFalsely : Prop := plainWalkRow.holds Try.pinned (OpenSpec.ofChange plainWalkWrong)

/-- 'hedgkeep.PlainRanks': WHATEVER THE INPUT: true; the input reads as it did. -/
def plainRanksSpec : ChangeSpec := { name := "plainRanks", fn := fun _ => fun
  | [d1, d2, d3, d4] => { results := [.lit (.bool true)], args := [d1, d2, d3, d4] }
  | _ => none }
def plainRanksRow : OpenClaim := { program := "ytkfgpoeodpndlaa", sum := "94d092a9ce7d7cd28bd06effe039343cd9efde644a99aacebf60cd4a7b6c2698", func := "hedgewright/hedgkeep.PlainRanks", spec := "plainRanks", inPlace := ["slices.overlaps[hedgewright/api.Pair]"], unfollowed := true, recurses := true, apart := false }
def PlainRanksSaid : Prop := plainRanksRow.holds Try.pinned (OpenSpec.ofChange plainRanksSpec)

/-- ITS FALSE NEIGHBOUR: 'it returns false'. Refute it at one input. -/
def plainRanksWrong : ChangeSpec := { name := "plainRanks", fn := fun _ => fun
  | [d1, d2, d3, d4] => { results := [.lit (.bool false)], args := [d1, d2, d3, d4] }
  | _ => none }
def PlainRanksWrongFalsely : Prop := plainRanksRow.holds Try.pinned (OpenSpec.ofChange plainRanksWrong)

/-- 'hedglaw.PlainRuns': WHATEVER THE INPUT: true; the input reads as it did. -/
def plainRunsSpec : ChangeSpec := { name := "plainRuns", fn := fun _ => fun
  | [d] => { results := [.lit (.bool true)], args := [d] }
  | _ => none }
def plainRunsRow : OpenClaim := { program := "ytkfgpoeodpndlaa", sum := "94d092a9ce7d7cd28bd06effe039343cd9efde644a99aacebf60cd4a7b6c2698", func := "hedgewright/hedglaw.PlainRuns", spec := "plainRuns", inPlace := ["slices.overlaps[hedgewright/api.Pair]"], unfollowed := true, recurses := true, apart := false }
def PlainRunsSaid : Prop := plainRunsRow.holds Try.pinned (OpenSpec.ofChange plainRunsSpec)

/-- ITS FALSE NEIGHBOUR: 'it returns false'. Refute it at one input. -/
def plainRunsWrong : ChangeSpec := { name := "plainRuns", fn := fun _ => fun
  | [d] => { results := [.lit (.bool false)], args := [d] }
  | _ => none }
def PlainRunsWrongFalsely : Prop := plainRunsRow.holds Try.pinned (OpenSpec.ofChange plainRunsWrong)

/-- 'hedglaw.Names': WHATEVER THE INPUT: true; the input reads as it did. -/
def namesSpec : ChangeSpec := { name := "names", fn := fun _ => fun
  | [] => { results := [.lit (.bool true)], args := [] }
  | _ => none }
def namesRow : OpenClaim := { program := "ytkfgpoeodpndlaa", sum := "94d092a9ce7d7cd28bd06effe039343cd9efde644a99aacebf60cd4a7b6c2698", func := "hedgewright/hedglaw.Names", spec := "names", apart := false }
def NamesSaid : Prop := namesRow.holds Try.pinned (OpenSpec.ofChange namesSpec)

/-- ITS FALSE NEIGHBOUR: 'it returns false'. Refute it at one input. -/
def namesWrong : ChangeSpec := { name := "names", fn := fun _ => fun
  | [] => { results := [.lit (.bool false)], args := [] }
  | _ => none }
def NamesWrongFalsely : Prop := namesRow.holds Try.pinned (OpenSpec.ofChange namesWrong)

/- THE SECOND FORM. 'bulk': how many values and letters a reading holds, each counted each time it is reached (what is shared counts as often as it is met; a slice's spare places count too). A statement '..UptoSaid' is the law's where the arguments, and the package variables that the reading takes, are together of bulk at most 1048576: NARROWER than '..Said'. Prove '..Said' where nothing that the law and all that it calls make is longer than what came in: it says more and counts as full. Else prove '..UptoSaid'. A law counts once. -/
mutual
def uptoBulk {H : Type} : DataW H → Nat
  | .lit (.string bytes) => bytes.length + 1
  | .lit _ => 1
  | .nil => 1
  | .ptr d => uptoBulk d + 1
  | .slice elems spare => uptoBulkAll elems + uptoBulkAll spare + 1
  | .agg parts => uptoBulkAll parts + 1
  | .iface _ d => uptoBulk d + 1
  | .map entries => uptoBulkEntries entries + 1
  | .held _ => 1
def uptoBulkAll {H : Type} : List (DataW H) → Nat
  | [] => 0
  | d :: r => uptoBulk d + uptoBulkAll r
def uptoBulkEntries {H : Type} : List (Lit × DataW H) → Nat
  | [] => 0
  | x :: r => uptoBulkEntry x + uptoBulkEntries r
def uptoBulkEntry {H : Type} : Lit × DataW H → Nat
  | (.string bytes, d) => bytes.length + uptoBulk d + 1
  | (_, d) => uptoBulk d + 1
 end
def uptoSmall : (H : Type) → List (DataW H) → Bool := fun _ ds => decide (uptoBulkAll ds ≤ 1048576)
def OpenSpec.upto (s : _root_.Go.ChangeSpec) : _root_.Go.OpenSpec := { _root_.Go.OpenSpec.ofChange s with cond := some uptoSmall }

/-- 'hedglaw.PlainDoes', WHERE WHAT IT READS IS OF BULK AT MOST 1048576: true; the input reads as it did. -/
def plainDoesUptoRow : OpenClaim := { program := "ytkfgpoeodpndlaa", sum := "94d092a9ce7d7cd28bd06effe039343cd9efde644a99aacebf60cd4a7b6c2698", func := "hedgewright/hedglaw.PlainDoes", spec := "plainDoes", inPlace := ["slices.overlaps[hedgewright/api.Pair]"], unfollowed := true, recurses := true, apart := false, narrowed := true }
def PlainDoesUptoSaid : Prop := plainDoesUptoRow.holds Try.pinned (OpenSpec.upto plainDoesSpec)

/-- 'hedgkeep.PlainPuts', WHERE WHAT IT READS IS OF BULK AT MOST 1048576: true; the input reads as it did. -/
def plainPutsUptoRow : OpenClaim := { program := "ytkfgpoeodpndlaa", sum := "94d092a9ce7d7cd28bd06effe039343cd9efde644a99aacebf60cd4a7b6c2698", func := "hedgewright/hedgkeep.PlainPuts", spec := "plainPuts", inPlace := ["slices.overlaps[hedgewright/api.Pair]"], unfollowed := true, recurses := true, apart := false, narrowed := true }
def PlainPutsUptoSaid : Prop := plainPutsUptoRow.holds Try.pinned (OpenSpec.upto plainPutsSpec)

/-- 'hedgkeep.PlainCuts', WHERE WHAT IT READS IS OF BULK AT MOST 1048576: true; the input reads as it did. -/
def plainCutsUptoRow : OpenClaim := { program := "ytkfgpoeodpndlaa", sum := "94d092a9ce7d7cd28bd06effe039343cd9efde644a99aacebf60cd4a7b6c2698", func := "hedgewright/hedgkeep.PlainCuts", spec := "plainCuts", inPlace := ["slices.overlaps[hedgewright/api.Pair]"], unfollowed := true, recurses := true, apart := false, narrowed := true }
def PlainCutsUptoSaid : Prop := plainCutsUptoRow.holds Try.pinned (OpenSpec.upto plainCutsSpec)

/-- 'hedgkeep.PlainWalk', WHERE WHAT IT READS IS OF BULK AT MOST 1048576: true; the input reads as it did. -/
def plainWalkUptoRow : OpenClaim := { program := "ytkfgpoeodpndlaa", sum := "94d092a9ce7d7cd28bd06effe039343cd9efde644a99aacebf60cd4a7b6c2698", func := "hedgewright/hedgkeep.PlainWalk", spec := "plainWalk", inPlace := ["slices.overlaps[hedgewright/api.Pair]"], unfollowed := true, recurses := true, apart := false, narrowed := true }
def PlainWalkUptoSaid : Prop := plainWalkUptoRow.holds Try.pinned (OpenSpec.upto plainWalkSpec)

/-- 'hedgkeep.PlainRanks', WHERE WHAT IT READS IS OF BULK AT MOST 1048576: true; the input reads as it did. -/
def plainRanksUptoRow : OpenClaim := { program := "ytkfgpoeodpndlaa", sum := "94d092a9ce7d7cd28bd06effe039343cd9efde644a99aacebf60cd4a7b6c2698", func := "hedgewright/hedgkeep.PlainRanks", spec := "plainRanks", inPlace := ["slices.overlaps[hedgewright/api.Pair]"], unfollowed := true, recurses := true, apart := false, narrowed := true }
def PlainRanksUptoSaid : Prop := plainRanksUptoRow.holds Try.pinned (OpenSpec.upto plainRanksSpec)

/-- 'hedglaw.PlainRuns', WHERE WHAT IT READS IS OF BULK AT MOST 1048576: true; the input reads as it did. -/
def plainRunsUptoRow : OpenClaim := { program := "ytkfgpoeodpndlaa", sum := "94d092a9ce7d7cd28bd06effe039343cd9efde644a99aacebf60cd4a7b6c2698", func := "hedgewright/hedglaw.PlainRuns", spec := "plainRuns", inPlace := ["slices.overlaps[hedgewright/api.Pair]"], unfollowed := true, recurses := true, apart := false, narrowed := true }
def PlainRunsUptoSaid : Prop := plainRunsUptoRow.holds Try.pinned (OpenSpec.upto plainRunsSpec)

/-- 'hedglaw.Names', WHERE WHAT IT READS IS OF BULK AT MOST 1048576: true; the input reads as it did. -/
def namesUptoRow : OpenClaim := { program := "ytkfgpoeodpndlaa", sum := "94d092a9ce7d7cd28bd06effe039343cd9efde644a99aacebf60cd4a7b6c2698", func := "hedgewright/hedglaw.Names", spec := "names", apart := false, narrowed := true }
def NamesUptoSaid : Prop := namesUptoRow.holds Try.pinned (OpenSpec.upto namesSpec)

end Rows
end Go.Proofs.Ytkfgpoeodpndlaa
