/-
  No cell of these rows narrows 'for every input' (looked for: loops, veiled, ifaces, maps, wideKeys, modest, calm, conditions, laid).
  DERIVED. THE GIVEN ROWS OF THIS SEAT. 5 by the template 'for every input the law returns true; each argument reads behind the call as it read before'; 0 by the template 'total and deterministic' (their statements: YtnallpdmdhbidaaTotals.lean).
  GIVEN WITH THE SEED: the statements are not yours to turn. If you find one false, say at which input.
  Laid BY PROGRAM, IN A SANDBOX (cutbox-rows.mjs): the forced cells as the released guide's own fill.sh prints them over the translation abe900f81e698896… (all of the seat's roots in one cut). By AI agents, Wed Nov 11 2026. No macro, syntax, notation, axiom, sorry.
-/
import Derived.Test.YtnallpdmdhbidaaChecked
import GoSem.Claim
import GoSem.ClaimJoined
import GoSem.ClaimMapViews
import Derived.JoinedTies
import Derived.KernelRfl
namespace Go.Proofs.Ytnallpdmdhbidaa
/- THE CELL 'sum', in the pinned program and in every row, IS THE sha256 OF THE DUMP (.gsa) THAT YtnallpdmdhbidaaProg.lean LOADS. Nothing in Lean hashes anything: it is a label: what it is worth is what the hold of that sum in a sandbox is worth. -/
noncomputable def Try.pinned : Pinned := { name := "ytnallpdmdhbidaa", sum := "abe900f81e698896b20f359cee7e8344a3b3023041a0009a4bf2c2f6975524d4", checked := Try.checked }
namespace Rows
def none {H : Type} : Left H := { results := [], args := [] }

/-- 'hedgkeep.GrowLast': WHATEVER THE INPUT: true; the input reads as it did. -/
def growLastSpec : ChangeSpec := { name := "growLast", fn := fun _ => fun
  | [d1, d2] => { results := [.lit (.bool true)], args := [d1, d2] }
  | _ => none }
def growLastRow : OpenClaim := { program := "ytnallpdmdhbidaa", sum := "abe900f81e698896b20f359cee7e8344a3b3023041a0009a4bf2c2f6975524d4", func := "hedgewright/hedgkeep.GrowLast", spec := "growLast", inPlace := ["slices.overlaps[hedgewright/api.Pair]"], unfollowed := true, recurses := true, apart := false }
def GrowLastSaid : Prop := growLastRow.holds Try.pinned (OpenSpec.ofChange growLastSpec)

/-- ITS FALSE NEIGHBOUR: 'it returns false'. Refute it at one input. -/
def growLastWrong : ChangeSpec := { name := "growLast", fn := fun _ => fun
  | [d1, d2] => { results := [.lit (.bool false)], args := [d1, d2] }
  | _ => none }
def GrowLastWrongFalsely : Prop := growLastRow.holds Try.pinned (OpenSpec.ofChange growLastWrong)

/-- 'hedglaw.GrowSays': WHATEVER THE INPUT: true; the input reads as it did. -/
def growSaysSpec : ChangeSpec := { name := "growSays", fn := fun _ => fun
  | [d1, d2] => { results := [.lit (.bool true)], args := [d1, d2] }
  | _ => none }
def growSaysRow : OpenClaim := { program := "ytnallpdmdhbidaa", sum := "abe900f81e698896b20f359cee7e8344a3b3023041a0009a4bf2c2f6975524d4", func := "hedgewright/hedglaw.GrowSays", spec := "growSays", inPlace := ["slices.overlaps[hedgewright/api.Pair]"], unfollowed := true, recurses := true, apart := false }
def GrowSaysSaid : Prop := growSaysRow.holds Try.pinned (OpenSpec.ofChange growSaysSpec)

/-- ITS FALSE NEIGHBOUR: 'it returns false'. Refute it at one input. -/
def growSaysWrong : ChangeSpec := { name := "growSays", fn := fun _ => fun
  | [d1, d2] => { results := [.lit (.bool false)], args := [d1, d2] }
  | _ => none }
def GrowSaysWrongFalsely : Prop := growSaysRow.holds Try.pinned (OpenSpec.ofChange growSaysWrong)

/-- 'hedgkeep.GrowTree': WHATEVER THE INPUT: true; the input reads as it did. -/
def growTreeSpec : ChangeSpec := { name := "growTree", fn := fun _ => fun
  | [d] => { results := [.lit (.bool true)], args := [d] }
  | _ => none }
def growTreeRow : OpenClaim := { program := "ytnallpdmdhbidaa", sum := "abe900f81e698896b20f359cee7e8344a3b3023041a0009a4bf2c2f6975524d4", func := "hedgewright/hedgkeep.GrowTree", spec := "growTree", inPlace := ["slices.overlaps[hedgewright/api.Pair]"], unfollowed := true, recurses := true, apart := false }
def GrowTreeSaid : Prop := growTreeRow.holds Try.pinned (OpenSpec.ofChange growTreeSpec)

/-- ITS FALSE NEIGHBOUR: 'it returns false'. Refute it at one input. -/
def growTreeWrong : ChangeSpec := { name := "growTree", fn := fun _ => fun
  | [d] => { results := [.lit (.bool false)], args := [d] }
  | _ => none }
def GrowTreeWrongFalsely : Prop := growTreeRow.holds Try.pinned (OpenSpec.ofChange growTreeWrong)

/-- 'hedgkeep.GrowHoare': WHATEVER THE INPUT: true; the input reads as it did. -/
def growHoareSpec : ChangeSpec := { name := "growHoare", fn := fun _ => fun
  | [d] => { results := [.lit (.bool true)], args := [d] }
  | _ => none }
def growHoareRow : OpenClaim := { program := "ytnallpdmdhbidaa", sum := "abe900f81e698896b20f359cee7e8344a3b3023041a0009a4bf2c2f6975524d4", func := "hedgewright/hedgkeep.GrowHoare", spec := "growHoare", inPlace := ["slices.overlaps[hedgewright/api.Pair]"], unfollowed := true, recurses := true, apart := false }
def GrowHoareSaid : Prop := growHoareRow.holds Try.pinned (OpenSpec.ofChange growHoareSpec)

/-- ITS FALSE NEIGHBOUR: 'it returns false'. Refute it at one input. -/
def growHoareWrong : ChangeSpec := { name := "growHoare", fn := fun _ => fun
  | [d] => { results := [.lit (.bool false)], args := [d] }
  | _ => none }
def GrowHoareWrongFalsely : Prop := growHoareRow.holds Try.pinned (OpenSpec.ofChange growHoareWrong)

/-- 'hedgkeep.GrowFirst': WHATEVER THE INPUT: true; the input reads as it did. -/
def growFirstSpec : ChangeSpec := { name := "growFirst", fn := fun _ => fun
  | [d] => { results := [.lit (.bool true)], args := [d] }
  | _ => none }
def growFirstRow : OpenClaim := { program := "ytnallpdmdhbidaa", sum := "abe900f81e698896b20f359cee7e8344a3b3023041a0009a4bf2c2f6975524d4", func := "hedgewright/hedgkeep.GrowFirst", spec := "growFirst", inPlace := ["slices.overlaps[hedgewright/api.Pair]"], unfollowed := true, recurses := true, apart := false }
def GrowFirstSaid : Prop := growFirstRow.holds Try.pinned (OpenSpec.ofChange growFirstSpec)

/-- ITS FALSE NEIGHBOUR: 'it returns false'. Refute it at one input. -/
def growFirstWrong : ChangeSpec := { name := "growFirst", fn := fun _ => fun
  | [d] => { results := [.lit (.bool false)], args := [d] }
  | _ => none }
def GrowFirstWrongFalsely : Prop := growFirstRow.holds Try.pinned (OpenSpec.ofChange growFirstWrong)

/- THE SECOND FORM. 'bulk': how many values and letters a reading holds, each counted each time it is reached (what is shared counts as often as it is met; a slice's spare places count too). A statement '..UptoSaid' is the law's where the arguments, and the package variables that the reading takes, are together of bulk at most 1048576: NARROWER than '..Said'. Prove '..Said' where nothing that the law and all that it calls make is longer than what came in: it says more and counts as full. Else prove '..UptoSaid'. A law counts once. -/
mutual
def uptoBulk {H : Type} : DataW H → Nat
  | .lit (.string bytes) => bytes.length + 1
  | .lit _ => 1
  | .nil => 1
  | .ptr d => uptoBulk d + 1
  | .slice elems spare => uptoBulkAll elems + uptoBulkAll spare + 1
  | .agg parts => uptoBulkAll parts + 1
  | .iface _ d => uptoBulk d + 1
  | .map entries => uptoBulkEntries entries + 1
  | .held _ => 1
def uptoBulkAll {H : Type} : List (DataW H) → Nat
  | [] => 0
  | d :: r => uptoBulk d + uptoBulkAll r
def uptoBulkEntries {H : Type} : List (Lit × DataW H) → Nat
  | [] => 0
  | x :: r => uptoBulkEntry x + uptoBulkEntries r
def uptoBulkEntry {H : Type} : Lit × DataW H → Nat
  | (.string bytes, d) => bytes.length + uptoBulk d + 1
  | (_, d) => uptoBulk d + 1
 end
def uptoSmall : (H : Type) → List (DataW H) → Bool := fun _ ds => decide (uptoBulkAll ds ≤ 1048576)
def OpenSpec.upto (s : _root_.Go.ChangeSpec) : _root_.Go.OpenSpec := { _root_.Go.OpenSpec.ofChange s with cond := some uptoSmall }

/-- 'hedgkeep.GrowLast', WHERE WHAT IT READS IS OF BULK AT MOST 1048576: true; the input reads as it did. -/
def growLastUptoRow : OpenClaim := { program := "ytnallpdmdhbidaa", sum := "abe900f81e698896b20f359cee7e8344a3b3023041a0009a4bf2c2f6975524d4", func := "hedgewright/hedgkeep.GrowLast", spec := "growLast", inPlace := ["slices.overlaps[hedgewright/api.Pair]"], unfollowed := true, recurses := true, apart := false, narrowed := true }
def GrowLastUptoSaid : Prop := growLastUptoRow.holds Try.pinned (OpenSpec.upto growLastSpec)

/-- 'hedglaw.GrowSays', WHERE WHAT IT READS IS OF BULK AT MOST 1048576: true; the input reads as it did. -/
def growSaysUptoRow : OpenClaim := { program := "ytnallpdmdhbidaa", sum := "abe900f81e698896b20f359cee7e8344a3b3023041a0009a4bf2c2f6975524d4", func := "hedgewright/hedglaw.GrowSays", spec := "growSays", inPlace := ["slices.overlaps[hedgewright/api.Pair]"], unfollowed := true, recurses := true, apart := false, narrowed := true }
def GrowSaysUptoSaid : Prop := growSaysUptoRow.holds Try.pinned (OpenSpec.upto growSaysSpec)

/-- 'hedgkeep.GrowTree', WHERE WHAT IT READS IS OF BULK AT MOST 1048576: true; the input reads as it did. -/
def growTreeUptoRow : OpenClaim := { program := "ytnallpdmdhbidaa", sum := "abe900f81e698896b20f359cee7e8344a3b3023041a0009a4bf2c2f6975524d4", func := "hedgewright/hedgkeep.GrowTree", spec := "growTree", inPlace := ["slices.overlaps[hedgewright/api.Pair]"], unfollowed := true, recurses := true, apart := false, narrowed := true }
def GrowTreeUptoSaid : Prop := growTreeUptoRow.holds Try.pinned (OpenSpec.upto growTreeSpec)

/-- 'hedgkeep.GrowHoare', WHERE WHAT IT READS IS OF BULK AT MOST 1048576: true; the input reads as it did. -/
def growHoareUptoRow : OpenClaim := { program := "ytnallpdmdhbidaa", sum := "abe900f81e698896b20f359cee7e8344a3b3023041a0009a4bf2c2f6975524d4", func := "hedgewright/hedgkeep.GrowHoare", spec := "growHoare", inPlace := ["slices.overlaps[hedgewright/api.Pair]"], unfollowed := true, recurses := true, apart := false, narrowed := true }
def GrowHoareUptoSaid : Prop := growHoareUptoRow.holds Try.pinned (OpenSpec.upto growHoareSpec)

/-- 'hedgkeep.GrowFirst', WHERE WHAT IT READS IS OF BULK AT MOST 1048576: true; the input reads as it did. -/
def growFirstUptoRow : OpenClaim := { program := "ytnallpdmdhbidaa", sum := "abe900f81e698896b20f359cee7e8344a3b3023041a0009a4bf2c2f6975524d4", func := "hedgewright/hedgkeep.GrowFirst", spec := "growFirst", inPlace := ["slices.overlaps[hedgewright/api.Pair]"], unfollowed := true, recurses := true, apart := false, narrowed := true }
def GrowFirstUptoSaid : Prop := growFirstUptoRow.holds Try.pinned (OpenSpec.upto growFirstSpec)

end Rows
end Go.Proofs.Ytnallpdmdhbidaa
