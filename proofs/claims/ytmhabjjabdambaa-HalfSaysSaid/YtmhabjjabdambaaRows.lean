/-
  No cell of these rows narrows 'for every input' (looked for: loops, veiled, ifaces, maps, wideKeys, modest, calm, conditions, laid).
  DERIVED. THE GIVEN ROWS OF THIS SEAT. 5 by the template 'for every input the law returns true; each argument reads behind the call as it read before'; 0 by the template 'total and deterministic' (their statements: YtmhabjjabdambaaTotals.lean).
  GIVEN WITH THE SEED: the statements are not yours to turn. If you find one false, say at which input.
  Laid BY PROGRAM, IN A SANDBOX (cutbox-rows.mjs): the forced cells as the released guide's own fill.sh prints them over the translation 9e45c268320017d7… (all of the seat's roots in one cut). By AI agents, Wed Nov 11 2026. No macro, syntax, notation, axiom, sorry.
-/
import Derived.Test.YtmhabjjabdambaaChecked
import GoSem.Claim
import GoSem.ClaimJoined
import GoSem.ClaimMapViews
import Derived.JoinedTies
import Derived.KernelRfl
namespace Go.Proofs.Ytmhabjjabdambaa
/- THE CELL 'sum', in the pinned program and in every row, IS THE sha256 OF THE DUMP (.gsa) THAT YtmhabjjabdambaaProg.lean LOADS. Nothing in Lean hashes anything: it is a label: what it is worth is what the hold of that sum in a sandbox is worth. -/
noncomputable def Try.pinned : Pinned := { name := "ytmhabjjabdambaa", sum := "9e45c268320017d75f8b747d70de132af21f7ae84d1bc1f0167ff150e531f1c3", checked := Try.checked }
namespace Rows
def none {H : Type} : Left H := { results := [], args := [] }

/-- 'hedgkeep.HalfEnds': WHATEVER THE INPUT: true; the input reads as it did. -/
def halfEndsSpec : ChangeSpec := { name := "halfEnds", fn := fun _ => fun
  | [d] => { results := [.lit (.bool true)], args := [d] }
  | _ => none }
def halfEndsRow : OpenClaim := { program := "ytmhabjjabdambaa", sum := "9e45c268320017d75f8b747d70de132af21f7ae84d1bc1f0167ff150e531f1c3", func := "hedgewright/hedgkeep.HalfEnds", spec := "halfEnds", recurses := true, apart := false }
def HalfEndsSaid : Prop := halfEndsRow.holds Try.pinned (OpenSpec.ofChange halfEndsSpec)

/-- ITS FALSE NEIGHBOUR: 'it returns false'. Refute it at one input. -/
def halfEndsWrong : ChangeSpec := { name := "halfEnds", fn := fun _ => fun
  | [d] => { results := [.lit (.bool false)], args := [d] }
  | _ => none }
def HalfEndsWrongFalsely : Prop := halfEndsRow.holds Try.pinned (OpenSpec.ofChange halfEndsWrong)

/-- 'hedglaw.HalfSays': WHATEVER THE INPUT: true; the input reads as it did. -/
def halfSaysSpec : ChangeSpec := { name := "halfSays", fn := fun _ => fun
  | [d1, d2] => { results := [.lit (.bool true)], args := [d1, d2] }
  | _ => none }
def halfSaysRow : OpenClaim := { program := "ytmhabjjabdambaa", sum := "9e45c268320017d75f8b747d70de132af21f7ae84d1bc1f0167ff150e531f1c3", func := "hedgewright/hedglaw.HalfSays", spec := "halfSays", unfollowed := true, recurses := true, apart := false }
def HalfSaysSaid : Prop := halfSaysRow.holds Try.pinned (OpenSpec.ofChange halfSaysSpec)

/-- ITS FALSE NEIGHBOUR: 'it returns false'. Refute it at one input. -/
def halfSaysWrong : ChangeSpec := { name := "halfSays", fn := fun _ => fun
  | [d1, d2] => { results := [.lit (.bool false)], args := [d1, d2] }
  | _ => none }
def HalfSaysWrongFalsely : Prop := halfSaysRow.holds Try.pinned (OpenSpec.ofChange halfSaysWrong)

/-- 'hedgkeep.HalfWalk': WHATEVER THE INPUT: true; the input reads as it did. -/
def halfWalkSpec : ChangeSpec := { name := "halfWalk", fn := fun _ => fun
  | [d] => { results := [.lit (.bool true)], args := [d] }
  | _ => none }
def halfWalkRow : OpenClaim := { program := "ytmhabjjabdambaa", sum := "9e45c268320017d75f8b747d70de132af21f7ae84d1bc1f0167ff150e531f1c3", func := "hedgewright/hedgkeep.HalfWalk", spec := "halfWalk", recurses := true, apart := false }
def HalfWalkSaid : Prop := halfWalkRow.holds Try.pinned (OpenSpec.ofChange halfWalkSpec)

/-- ITS FALSE NEIGHBOUR: 'it returns false'. Refute it at one input. -/
def halfWalkWrong : ChangeSpec := { name := "halfWalk", fn := fun _ => fun
  | [d] => { results := [.lit (.bool false)], args := [d] }
  | _ => none }
def HalfWalkWrongFalsely : Prop := halfWalkRow.holds Try.pinned (OpenSpec.ofChange halfWalkWrong)

/-- 'hedgkeep.HalfCuts': WHATEVER THE INPUT: true; the input reads as it did. -/
def halfCutsSpec : ChangeSpec := { name := "halfCuts", fn := fun _ => fun
  | [d1, d2] => { results := [.lit (.bool true)], args := [d1, d2] }
  | _ => none }
def halfCutsRow : OpenClaim := { program := "ytmhabjjabdambaa", sum := "9e45c268320017d75f8b747d70de132af21f7ae84d1bc1f0167ff150e531f1c3", func := "hedgewright/hedgkeep.HalfCuts", spec := "halfCuts", recurses := true, apart := false }
def HalfCutsSaid : Prop := halfCutsRow.holds Try.pinned (OpenSpec.ofChange halfCutsSpec)

/-- ITS FALSE NEIGHBOUR: 'it returns false'. Refute it at one input. -/
def halfCutsWrong : ChangeSpec := { name := "halfCuts", fn := fun _ => fun
  | [d1, d2] => { results := [.lit (.bool false)], args := [d1, d2] }
  | _ => none }
def HalfCutsWrongFalsely : Prop := halfCutsRow.holds Try.pinned (OpenSpec.ofChange halfCutsWrong)

/-- 'hedgkeep.HalfPlain': WHATEVER THE INPUT: true; the input reads as it did. -/
def halfPlainSpec : ChangeSpec := { name := "halfPlain", fn := fun _ => fun
  | [d] => { results := [.lit (.bool true)], args := [d] }
  | _ => none }
def halfPlainRow : OpenClaim := { program := "ytmhabjjabdambaa", sum := "9e45c268320017d75f8b747d70de132af21f7ae84d1bc1f0167ff150e531f1c3", func := "hedgewright/hedgkeep.HalfPlain", spec := "halfPlain", inPlace := ["slices.overlaps[hedgewright/api.Pair]"], unfollowed := true, recurses := true, apart := false }
def HalfPlainSaid : Prop := halfPlainRow.holds Try.pinned (OpenSpec.ofChange halfPlainSpec)

/-- ITS FALSE NEIGHBOUR: 'it returns false'. Refute it at one input. -/
def halfPlainWrong : ChangeSpec := { name := "halfPlain", fn := fun _ => fun
  | [d] => { results := [.lit (.bool false)], args := [d] }
  | _ => none }
def HalfPlainWrongFalsely : Prop := halfPlainRow.holds Try.pinned (OpenSpec.ofChange halfPlainWrong)

/- THE SECOND FORM. 'bulk': how many values and letters a reading holds, each counted each time it is reached (what is shared counts as often as it is met; a slice's spare places count too). A statement '..UptoSaid' is the law's where the arguments, and the package variables that the reading takes, are together of bulk at most 1048576: NARROWER than '..Said'. Prove '..Said' where nothing that the law and all that it calls make is longer than what came in: it says more and counts as full. Else prove '..UptoSaid'. A law counts once. -/
mutual
def uptoBulk {H : Type} : DataW H → Nat
  | .lit (.string bytes) => bytes.length + 1
  | .lit _ => 1
  | .nil => 1
  | .ptr d => uptoBulk d + 1
  | .slice elems spare => uptoBulkAll elems + uptoBulkAll spare + 1
  | .agg parts => uptoBulkAll parts + 1
  | .iface _ d => uptoBulk d + 1
  | .map entries => uptoBulkEntries entries + 1
  | .held _ => 1
def uptoBulkAll {H : Type} : List (DataW H) → Nat
  | [] => 0
  | d :: r => uptoBulk d + uptoBulkAll r
def uptoBulkEntries {H : Type} : List (Lit × DataW H) → Nat
  | [] => 0
  | x :: r => uptoBulkEntry x + uptoBulkEntries r
def uptoBulkEntry {H : Type} : Lit × DataW H → Nat
  | (.string bytes, d) => bytes.length + uptoBulk d + 1
  | (_, d) => uptoBulk d + 1
 end
def uptoSmall : (H : Type) → List (DataW H) → Bool := fun _ ds => decide (uptoBulkAll ds ≤ 1048576)
def OpenSpec.upto (s : _root_.Go.ChangeSpec) : _root_.Go.OpenSpec := { _root_.Go.OpenSpec.ofChange s with cond := some uptoSmall }

/-- 'hedgkeep.HalfEnds', WHERE WHAT IT READS IS OF BULK AT MOST 1048576: true; the input reads as it did. -/
def halfEndsUptoRow : OpenClaim := { program := "ytmhabjjabdambaa", sum := "9e45c268320017d75f8b747d70de132af21f7ae84d1bc1f0167ff150e531f1c3", func := "hedgewright/hedgkeep.HalfEnds", spec := "halfEnds", recurses := true, apart := false, narrowed := true }
def HalfEndsUptoSaid : Prop := halfEndsUptoRow.holds Try.pinned (OpenSpec.upto halfEndsSpec)

/-- 'hedglaw.HalfSays', WHERE WHAT IT READS IS OF BULK AT MOST 1048576: true; the input reads as it did. -/
def halfSaysUptoRow : OpenClaim := { program := "ytmhabjjabdambaa", sum := "9e45c268320017d75f8b747d70de132af21f7ae84d1bc1f0167ff150e531f1c3", func := "hedgewright/hedglaw.HalfSays", spec := "halfSays", unfollowed := true, recurses := true, apart := false, narrowed := true }
def HalfSaysUptoSaid : Prop := halfSaysUptoRow.holds Try.pinned (OpenSpec.upto halfSaysSpec)

/-- 'hedgkeep.HalfWalk', WHERE WHAT IT READS IS OF BULK AT MOST 1048576: true; the input reads as it did. -/
def halfWalkUptoRow : OpenClaim := { program := "ytmhabjjabdambaa", sum := "9e45c268320017d75f8b747d70de132af21f7ae84d1bc1f0167ff150e531f1c3", func := "hedgewright/hedgkeep.HalfWalk", spec := "halfWalk", recurses := true, apart := false, narrowed := true }
def HalfWalkUptoSaid : Prop := halfWalkUptoRow.holds Try.pinned (OpenSpec.upto halfWalkSpec)

/-- 'hedgkeep.HalfCuts', WHERE WHAT IT READS IS OF BULK AT MOST 1048576: true; the input reads as it did. -/
def halfCutsUptoRow : OpenClaim := { program := "ytmhabjjabdambaa", sum := "9e45c268320017d75f8b747d70de132af21f7ae84d1bc1f0167ff150e531f1c3", func := "hedgewright/hedgkeep.HalfCuts", spec := "halfCuts", recurses := true, apart := false, narrowed := true }
def HalfCutsUptoSaid : Prop := halfCutsUptoRow.holds Try.pinned (OpenSpec.upto halfCutsSpec)

/-- 'hedgkeep.HalfPlain', WHERE WHAT IT READS IS OF BULK AT MOST 1048576: true; the input reads as it did. -/
def halfPlainUptoRow : OpenClaim := { program := "ytmhabjjabdambaa", sum := "9e45c268320017d75f8b747d70de132af21f7ae84d1bc1f0167ff150e531f1c3", func := "hedgewright/hedgkeep.HalfPlain", spec := "halfPlain", inPlace := ["slices.overlaps[hedgewright/api.Pair]"], unfollowed := true, recurses := true, apart := false, narrowed := true }
def HalfPlainUptoSaid : Prop := halfPlainUptoRow.holds Try.pinned (OpenSpec.upto halfPlainSpec)

end Rows
end Go.Proofs.Ytmhabjjabdambaa
