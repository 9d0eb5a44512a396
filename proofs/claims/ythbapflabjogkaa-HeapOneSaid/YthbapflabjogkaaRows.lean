/-
  No cell of these rows narrows 'for every input' (looked for: loops, veiled, ifaces, maps, wideKeys, modest, calm, conditions, laid).
  DERIVED. THE GIVEN ROWS OF THIS SEAT. 5 by the template 'for every input the law returns true; each argument reads behind the call as it read before'; 0 by the template 'total and deterministic' (their statements: YthbapflabjogkaaTotals.lean).
  GIVEN WITH THE SEED: the statements are not yours to turn. If you find one false, say at which input.
  Laid BY PROGRAM, IN A SANDBOX (cutbox-rows.mjs): the forced cells as the released guide's own fill.sh prints them over the translation 027c29967a0034d6… (all of the seat's roots in one cut). By AI agents, Wed Nov 11 2026. No macro, syntax, notation, axiom, sorry.
-/
import Derived.Test.YthbapflabjogkaaChecked
import GoSem.Claim
import GoSem.ClaimJoined
import GoSem.ClaimMapViews
import Derived.JoinedTies
import Derived.KernelRfl
namespace Go.Proofs.Ythbapflabjogkaa
/- THE CELL 'sum', in the pinned program and in every row, IS THE sha256 OF THE DUMP (.gsa) THAT YthbapflabjogkaaProg.lean LOADS. Nothing in Lean hashes anything: it is a label: what it is worth is what the hold of that sum in a sandbox is worth. -/
noncomputable def Try.pinned : Pinned := { name := "ythbapflabjogkaa", sum := "027c29967a0034d68f03c3e08d7a2a720d27a521461c5f2dc9d5d7811242598b", checked := Try.checked }
namespace Rows
def none {H : Type} : Left H := { results := [], args := [] }

/-- 'hedglaw.HeapSays': WHATEVER THE INPUT: true; the input reads as it did. -/
def heapSaysSpec : ChangeSpec := { name := "heapSays", fn := fun _ => fun
  | [d1, d2, d3] => { results := [.lit (.bool true)], args := [d1, d2, d3] }
  | _ => none }
def heapSaysRow : OpenClaim := { program := "ythbapflabjogkaa", sum := "027c29967a0034d68f03c3e08d7a2a720d27a521461c5f2dc9d5d7811242598b", func := "hedgewright/hedglaw.HeapSays", spec := "heapSays", unfollowed := true, recurses := true, apart := false }
def HeapSaysSaid : Prop := heapSaysRow.holds Try.pinned (OpenSpec.ofChange heapSaysSpec)

/-- ITS FALSE NEIGHBOUR: 'it returns false'. Refute it at one input. -/
def heapSaysWrong : ChangeSpec := { name := "heapSays", fn := fun _ => fun
  | [d1, d2, d3] => { results := [.lit (.bool false)], args := [d1, d2, d3] }
  | _ => none }
def HeapSaysWrongFalsely : Prop := heapSaysRow.holds Try.pinned (OpenSpec.ofChange heapSaysWrong)

/-- 'hedgkeep.HeapRanks': WHATEVER THE INPUT: true; the input reads as it did. -/
def heapRanksSpec : ChangeSpec := { name := "heapRanks", fn := fun _ => fun
  | [d] => { results := [.lit (.bool true)], args := [d] }
  | _ => none }
def heapRanksRow : OpenClaim := { program := "ythbapflabjogkaa", sum := "027c29967a0034d68f03c3e08d7a2a720d27a521461c5f2dc9d5d7811242598b", func := "hedgewright/hedgkeep.HeapRanks", spec := "heapRanks", unfollowed := true, recurses := true, apart := false }
def HeapRanksSaid : Prop := heapRanksRow.holds Try.pinned (OpenSpec.ofChange heapRanksSpec)

/-- ITS FALSE NEIGHBOUR: 'it returns false'. Refute it at one input. -/
def heapRanksWrong : ChangeSpec := { name := "heapRanks", fn := fun _ => fun
  | [d] => { results := [.lit (.bool false)], args := [d] }
  | _ => none }
def HeapRanksWrongFalsely : Prop := heapRanksRow.holds Try.pinned (OpenSpec.ofChange heapRanksWrong)

/-- 'hedgkeep.HeapLeast': WHATEVER THE INPUT: true; the input reads as it did. -/
def heapLeastSpec : ChangeSpec := { name := "heapLeast", fn := fun _ => fun
  | [d] => { results := [.lit (.bool true)], args := [d] }
  | _ => none }
def heapLeastRow : OpenClaim := { program := "ythbapflabjogkaa", sum := "027c29967a0034d68f03c3e08d7a2a720d27a521461c5f2dc9d5d7811242598b", func := "hedgewright/hedgkeep.HeapLeast", spec := "heapLeast", unfollowed := true, recurses := true, apart := false }
def HeapLeastSaid : Prop := heapLeastRow.holds Try.pinned (OpenSpec.ofChange heapLeastSpec)

/-- ITS FALSE NEIGHBOUR: 'it returns false'. Refute it at one input. -/
def heapLeastWrong : ChangeSpec := { name := "heapLeast", fn := fun _ => fun
  | [d] => { results := [.lit (.bool false)], args := [d] }
  | _ => none }
def HeapLeastWrongFalsely : Prop := heapLeastRow.holds Try.pinned (OpenSpec.ofChange heapLeastWrong)

/-- 'hedgkeep.HeapJoins': WHATEVER THE INPUT: true; the input reads as it did. -/
def heapJoinsSpec : ChangeSpec := { name := "heapJoins", fn := fun _ => fun
  | [d1, d2] => { results := [.lit (.bool true)], args := [d1, d2] }
  | _ => none }
def heapJoinsRow : OpenClaim := { program := "ythbapflabjogkaa", sum := "027c29967a0034d68f03c3e08d7a2a720d27a521461c5f2dc9d5d7811242598b", func := "hedgewright/hedgkeep.HeapJoins", spec := "heapJoins", unfollowed := true, recurses := true, apart := false }
def HeapJoinsSaid : Prop := heapJoinsRow.holds Try.pinned (OpenSpec.ofChange heapJoinsSpec)

/-- ITS FALSE NEIGHBOUR: 'it returns false'. Refute it at one input. -/
def heapJoinsWrong : ChangeSpec := { name := "heapJoins", fn := fun _ => fun
  | [d1, d2] => { results := [.lit (.bool false)], args := [d1, d2] }
  | _ => none }
def HeapJoinsWrongFalsely : Prop := heapJoinsRow.holds Try.pinned (OpenSpec.ofChange heapJoinsWrong)

/-- 'hedgkeep.HeapOne': WHATEVER THE INPUT: true; the input reads as it did. -/
def heapOneSpec : ChangeSpec := { name := "heapOne", fn := fun _ => fun
  | [d] => { results := [.lit (.bool true)], args := [d] }
  | _ => none }
def heapOneRow : OpenClaim := { program := "ythbapflabjogkaa", sum := "027c29967a0034d68f03c3e08d7a2a720d27a521461c5f2dc9d5d7811242598b", func := "hedgewright/hedgkeep.HeapOne", spec := "heapOne", unfollowed := true, recurses := true, apart := false }
def HeapOneSaid : Prop := heapOneRow.holds Try.pinned (OpenSpec.ofChange heapOneSpec)

/-- ITS FALSE NEIGHBOUR: 'it returns false'. Refute it at one input. -/
def heapOneWrong : ChangeSpec := { name := "heapOne", fn := fun _ => fun
  | [d] => { results := [.lit (.bool false)], args := [d] }
  | _ => none }
def HeapOneWrongFalsely : Prop := heapOneRow.holds Try.pinned (OpenSpec.ofChange heapOneWrong)

/- THE SECOND FORM. 'bulk': how many values and letters a reading holds, each counted each time it is reached (what is shared counts as often as it is met; a slice's spare places count too). A statement '..UptoSaid' is the law's where the arguments, and the package variables that the reading takes, are together of bulk at most 1048576: NARROWER than '..Said'. Prove '..Said' where nothing that the law and all that it calls make is longer than what came in: it says more and counts as full. Else prove '..UptoSaid'. A law counts once. -/
mutual
def uptoBulk {H : Type} : DataW H → Nat
  | .lit (.string bytes) => bytes.length + 1
  | .lit _ => 1
  | .nil => 1
  | .ptr d => uptoBulk d + 1
  | .slice elems spare => uptoBulkAll elems + uptoBulkAll spare + 1
  | .agg parts => uptoBulkAll parts + 1
  | .iface _ d => uptoBulk d + 1
  | .map entries => uptoBulkEntries entries + 1
  | .held _ => 1
def uptoBulkAll {H : Type} : List (DataW H) → Nat
  | [] => 0
  | d :: r => uptoBulk d + uptoBulkAll r
def uptoBulkEntries {H : Type} : List (Lit × DataW H) → Nat
  | [] => 0
  | x :: r => uptoBulkEntry x + uptoBulkEntries r
def uptoBulkEntry {H : Type} : Lit × DataW H → Nat
  | (.string bytes, d) => bytes.length + uptoBulk d + 1
  | (_, d) => uptoBulk d + 1
 end
def uptoSmall : (H : Type) → List (DataW H) → Bool := fun _ ds => decide (uptoBulkAll ds ≤ 1048576)
def OpenSpec.upto (s : _root_.Go.ChangeSpec) : _root_.Go.OpenSpec := { _root_.Go.OpenSpec.ofChange s with cond := some uptoSmall }

/-- 'hedglaw.HeapSays', WHERE WHAT IT READS IS OF BULK AT MOST 1048576: true; the input reads as it did. -/
def heapSaysUptoRow : OpenClaim := { program := "ythbapflabjogkaa", sum := "027c29967a0034d68f03c3e08d7a2a720d27a521461c5f2dc9d5d7811242598b", func := "hedgewright/hedglaw.HeapSays", spec := "heapSays", unfollowed := true, recurses := true, apart := false, narrowed := true }
def HeapSaysUptoSaid : Prop := heapSaysUptoRow.holds Try.pinned (OpenSpec.upto heapSaysSpec)

/-- 'hedgkeep.HeapRanks', WHERE WHAT IT READS IS OF BULK AT MOST 1048576: true; the input reads as it did. -/
def heapRanksUptoRow : OpenClaim := { program := "ythbapflabjogkaa", sum := "027c29967a0034d68f03c3e08d7a2a720d27a521461c5f2dc9d5d7811242598b", func := "hedgewright/hedgkeep.HeapRanks", spec := "heapRanks", unfollowed := true, recurses := true, apart := false, narrowed := true }
def HeapRanksUptoSaid : Prop := heapRanksUptoRow.holds Try.pinned (OpenSpec.upto heapRanksSpec)

/-- 'hedgkeep.HeapLeast', WHERE WHAT IT READS IS OF BULK AT MOST 1048576: true; the input reads as it did. -/
def heapLeastUptoRow : OpenClaim := { program := "ythbapflabjogkaa", sum := "027c29967a0034d68f03c3e08d7a2a720d27a521461c5f2dc9d5d7811242598b", func := "hedgewright/hedgkeep.HeapLeast", spec := "heapLeast", unfollowed := true, recurses := true, apart := false, narrowed := true }
def HeapLeastUptoSaid : Prop := heapLeastUptoRow.holds Try.pinned (OpenSpec.upto heapLeastSpec)

/-- 'hedgkeep.HeapJoins', WHERE WHAT IT READS IS OF BULK AT MOST 1048576: true; the input reads as it did. -/
def heapJoinsUptoRow : OpenClaim := { program := "ythbapflabjogkaa", sum := "027c29967a0034d68f03c3e08d7a2a720d27a521461c5f2dc9d5d7811242598b", func := "hedgewright/hedgkeep.HeapJoins", spec := "heapJoins", unfollowed := true, recurses := true, apart := false, narrowed := true }
def HeapJoinsUptoSaid : Prop := heapJoinsUptoRow.holds Try.pinned (OpenSpec.upto heapJoinsSpec)

/-- 'hedgkeep.HeapOne', WHERE WHAT IT READS IS OF BULK AT MOST 1048576: true; the input reads as it did. -/
def heapOneUptoRow : OpenClaim := { program := "ythbapflabjogkaa", sum := "027c29967a0034d68f03c3e08d7a2a720d27a521461c5f2dc9d5d7811242598b", func := "hedgewright/hedgkeep.HeapOne", spec := "heapOne", unfollowed := true, recurses := true, apart := false, narrowed := true }
def HeapOneUptoSaid : Prop := heapOneUptoRow.holds Try.pinned (OpenSpec.upto heapOneSpec)

end Rows
end Go.Proofs.Ythbapflabjogkaa
