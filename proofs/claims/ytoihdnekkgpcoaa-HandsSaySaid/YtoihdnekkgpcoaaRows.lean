/-
  No cell of these rows narrows 'for every input' (looked for: loops, veiled, ifaces, maps, wideKeys, modest, calm, conditions, laid).
  DERIVED. THE GIVEN ROWS OF THIS SEAT. 6 by the template 'for every input the law returns true; each argument reads behind the call as it read before'; 0 by the template 'total and deterministic' (their statements: YtoihdnekkgpcoaaTotals.lean).
  GIVEN WITH THE SEED: the statements are not yours to turn. If you find one false, say at which input.
  Laid BY PROGRAM, IN A SANDBOX (cutbox-rows.mjs): the forced cells as the released guide's own fill.sh prints them over the translation 7ab8d5484fb316f2… (all of the seat's roots in one cut). By AI agents, Wed Nov 11 2026. No macro, syntax, notation, axiom, sorry.
-/
import Derived.Test.YtoihdnekkgpcoaaChecked
import GoSem.Claim
import GoSem.ClaimJoined
import GoSem.ClaimMapViews
import Derived.JoinedTies
import Derived.KernelRfl
namespace Go.Proofs.Ytoihdnekkgpcoaa
/- THE CELL 'sum', in the pinned program and in every row, IS THE sha256 OF THE DUMP (.gsa) THAT YtoihdnekkgpcoaaProg.lean LOADS. Nothing in Lean hashes anything: it is a label: what it is worth is what the hold of that sum in a sandbox is worth. -/
noncomputable def Try.pinned : Pinned := { name := "ytoihdnekkgpcoaa", sum := "7ab8d5484fb316f29d0e650b386e4ec7ec7336a5436fa2d8ed78141e3572859f", checked := Try.checked }
namespace Rows
def none {H : Type} : Left H := { results := [], args := [] }

/-- 'hedgkeep.HandsNaive': WHATEVER THE INPUT: true; the input reads as it did. -/
def handsNaiveSpec : ChangeSpec := { name := "handsNaive", fn := fun _ => fun
  | [] => { results := [.lit (.bool true)], args := [] }
  | _ => none }
def handsNaiveRow : OpenClaim := { program := "ytoihdnekkgpcoaa", sum := "7ab8d5484fb316f29d0e650b386e4ec7ec7336a5436fa2d8ed78141e3572859f", func := "hedgewright/hedgkeep.HandsNaive", spec := "handsNaive", unfollowed := true, recurses := true, apart := false }
def HandsNaiveSaid : Prop := handsNaiveRow.holds Try.pinned (OpenSpec.ofChange handsNaiveSpec)

/-- ITS FALSE NEIGHBOUR: 'it returns false'. Refute it at one input. -/
def handsNaiveWrong : ChangeSpec := { name := "handsNaive", fn := fun _ => fun
  | [] => { results := [.lit (.bool false)], args := [] }
  | _ => none }
def HandsNaiveWrongFalsely : Prop := handsNaiveRow.holds Try.pinned (OpenSpec.ofChange handsNaiveWrong)

/-- 'hedgkeep.HandsCount': WHATEVER THE INPUT: true; the input reads as it did. -/
def handsCountSpec : ChangeSpec := { name := "handsCount", fn := fun _ => fun
  | [d1, d2, d3, d4] => { results := [.lit (.bool true)], args := [d1, d2, d3, d4] }
  | _ => none }
def handsCountRow : OpenClaim := { program := "ytoihdnekkgpcoaa", sum := "7ab8d5484fb316f29d0e650b386e4ec7ec7336a5436fa2d8ed78141e3572859f", func := "hedgewright/hedgkeep.HandsCount", spec := "handsCount", unfollowed := true, recurses := true, apart := false }
def HandsCountSaid : Prop := handsCountRow.holds Try.pinned (OpenSpec.ofChange handsCountSpec)

/-- ITS FALSE NEIGHBOUR: 'it returns false'. Refute it at one input. -/
def handsCountWrong : ChangeSpec := { name := "handsCount", fn := fun _ => fun
  | [d1, d2, d3, d4] => { results := [.lit (.bool false)], args := [d1, d2, d3, d4] }
  | _ => none }
def HandsCountWrongFalsely : Prop := handsCountRow.holds Try.pinned (OpenSpec.ofChange handsCountWrong)

/-- 'hedgkeep.HandsAlone': WHATEVER THE INPUT: true; the input reads as it did. -/
def handsAloneSpec : ChangeSpec := { name := "handsAlone", fn := fun _ => fun
  | [d1, d2, d3] => { results := [.lit (.bool true)], args := [d1, d2, d3] }
  | _ => none }
def handsAloneRow : OpenClaim := { program := "ytoihdnekkgpcoaa", sum := "7ab8d5484fb316f29d0e650b386e4ec7ec7336a5436fa2d8ed78141e3572859f", func := "hedgewright/hedgkeep.HandsAlone", spec := "handsAlone", unfollowed := true, recurses := true, apart := false }
def HandsAloneSaid : Prop := handsAloneRow.holds Try.pinned (OpenSpec.ofChange handsAloneSpec)

/-- ITS FALSE NEIGHBOUR: 'it returns false'. Refute it at one input. -/
def handsAloneWrong : ChangeSpec := { name := "handsAlone", fn := fun _ => fun
  | [d1, d2, d3] => { results := [.lit (.bool false)], args := [d1, d2, d3] }
  | _ => none }
def HandsAloneWrongFalsely : Prop := handsAloneRow.holds Try.pinned (OpenSpec.ofChange handsAloneWrong)

/-- 'hedgkeep.HandsFree': WHATEVER THE INPUT: true; the input reads as it did. -/
def handsFreeSpec : ChangeSpec := { name := "handsFree", fn := fun _ => fun
  | [d1, d2, d3, d4] => { results := [.lit (.bool true)], args := [d1, d2, d3, d4] }
  | _ => none }
def handsFreeRow : OpenClaim := { program := "ytoihdnekkgpcoaa", sum := "7ab8d5484fb316f29d0e650b386e4ec7ec7336a5436fa2d8ed78141e3572859f", func := "hedgewright/hedgkeep.HandsFree", spec := "handsFree", unfollowed := true, recurses := true, apart := false }
def HandsFreeSaid : Prop := handsFreeRow.holds Try.pinned (OpenSpec.ofChange handsFreeSpec)

/-- ITS FALSE NEIGHBOUR: 'it returns false'. Refute it at one input. -/
def handsFreeWrong : ChangeSpec := { name := "handsFree", fn := fun _ => fun
  | [d1, d2, d3, d4] => { results := [.lit (.bool false)], args := [d1, d2, d3, d4] }
  | _ => none }
def HandsFreeWrongFalsely : Prop := handsFreeRow.holds Try.pinned (OpenSpec.ofChange handsFreeWrong)

/-- 'hedglaw.HandsSay': WHATEVER THE INPUT: true; the input reads as it did. -/
def handsSaySpec : ChangeSpec := { name := "handsSay", fn := fun _ => fun
  | [d1, d2, d3, d4] => { results := [.lit (.bool true)], args := [d1, d2, d3, d4] }
  | _ => none }
def handsSayRow : OpenClaim := { program := "ytoihdnekkgpcoaa", sum := "7ab8d5484fb316f29d0e650b386e4ec7ec7336a5436fa2d8ed78141e3572859f", func := "hedgewright/hedglaw.HandsSay", spec := "handsSay", unfollowed := true, recurses := true, apart := false }
def HandsSaySaid : Prop := handsSayRow.holds Try.pinned (OpenSpec.ofChange handsSaySpec)

/-- ITS FALSE NEIGHBOUR: 'it returns false'. Refute it at one input. -/
def handsSayWrong : ChangeSpec := { name := "handsSay", fn := fun _ => fun
  | [d1, d2, d3, d4] => { results := [.lit (.bool false)], args := [d1, d2, d3, d4] }
  | _ => none }
def HandsSayWrongFalsely : Prop := handsSayRow.holds Try.pinned (OpenSpec.ofChange handsSayWrong)

/-- 'hedgkeep.HandsOrder': WHATEVER THE INPUT: true; the input reads as it did. -/
def handsOrderSpec : ChangeSpec := { name := "handsOrder", fn := fun _ => fun
  | [d1, d2, d3, d4] => { results := [.lit (.bool true)], args := [d1, d2, d3, d4] }
  | _ => none }
def handsOrderRow : OpenClaim := { program := "ytoihdnekkgpcoaa", sum := "7ab8d5484fb316f29d0e650b386e4ec7ec7336a5436fa2d8ed78141e3572859f", func := "hedgewright/hedgkeep.HandsOrder", spec := "handsOrder", unfollowed := true, recurses := true, apart := false }
def HandsOrderSaid : Prop := handsOrderRow.holds Try.pinned (OpenSpec.ofChange handsOrderSpec)

/-- ITS FALSE NEIGHBOUR: 'it returns false'. Refute it at one input. -/
def handsOrderWrong : ChangeSpec := { name := "handsOrder", fn := fun _ => fun
  | [d1, d2, d3, d4] => { results := [.lit (.bool false)], args := [d1, d2, d3, d4] }
  | _ => none }
def HandsOrderWrongFalsely : Prop := handsOrderRow.holds Try.pinned (OpenSpec.ofChange handsOrderWrong)

/- THE SECOND FORM. 'bulk': how many values and letters a reading holds, each counted each time it is reached (what is shared counts as often as it is met; a slice's spare places count too). A statement '..UptoSaid' is the law's where the arguments, and the package variables that the reading takes, are together of bulk at most 1048576: NARROWER than '..Said'. Prove '..Said' where nothing that the law and all that it calls make is longer than what came in: it says more and counts as full. Else prove '..UptoSaid'. A law counts once. -/
mutual
def uptoBulk {H : Type} : DataW H → Nat
  | .lit (.string bytes) => bytes.length + 1
  | .lit _ => 1
  | .nil => 1
  | .ptr d => uptoBulk d + 1
  | .slice elems spare => uptoBulkAll elems + uptoBulkAll spare + 1
  | .agg parts => uptoBulkAll parts + 1
  | .iface _ d => uptoBulk d + 1
  | .map entries => uptoBulkEntries entries + 1
  | .held _ => 1
def uptoBulkAll {H : Type} : List (DataW H) → Nat
  | [] => 0
  | d :: r => uptoBulk d + uptoBulkAll r
def uptoBulkEntries {H : Type} : List (Lit × DataW H) → Nat
  | [] => 0
  | x :: r => uptoBulkEntry x + uptoBulkEntries r
def uptoBulkEntry {H : Type} : Lit × DataW H → Nat
  | (.string bytes, d) => bytes.length + uptoBulk d + 1
  | (_, d) => uptoBulk d + 1
 end
def uptoSmall : (H : Type) → List (DataW H) → Bool := fun _ ds => decide (uptoBulkAll ds ≤ 1048576)
def OpenSpec.upto (s : _root_.Go.ChangeSpec) : _root_.Go.OpenSpec := { _root_.Go.OpenSpec.ofChange s with cond := some uptoSmall }

/-- 'hedgkeep.HandsNaive', WHERE WHAT IT READS IS OF BULK AT MOST 1048576: true; the input reads as it did. -/
def handsNaiveUptoRow : OpenClaim := { program := "ytoihdnekkgpcoaa", sum := "7ab8d5484fb316f29d0e650b386e4ec7ec7336a5436fa2d8ed78141e3572859f", func := "hedgewright/hedgkeep.HandsNaive", spec := "handsNaive", unfollowed := true, recurses := true, apart := false, narrowed := true }
def HandsNaiveUptoSaid : Prop := handsNaiveUptoRow.holds Try.pinned (OpenSpec.upto handsNaiveSpec)

/-- 'hedgkeep.HandsCount', WHERE WHAT IT READS IS OF BULK AT MOST 1048576: true; the input reads as it did. -/
def handsCountUptoRow : OpenClaim := { program := "ytoihdnekkgpcoaa", sum := "7ab8d5484fb316f29d0e650b386e4ec7ec7336a5436fa2d8ed78141e3572859f", func := "hedgewright/hedgkeep.HandsCount", spec := "handsCount", unfollowed := true, recurses := true, apart := false, narrowed := true }
def HandsCountUptoSaid : Prop := handsCountUptoRow.holds Try.pinned (OpenSpec.upto handsCountSpec)

/-- 'hedgkeep.HandsAlone', WHERE WHAT IT READS IS OF BULK AT MOST 1048576: true; the input reads as it did. -/
def handsAloneUptoRow : OpenClaim := { program := "ytoihdnekkgpcoaa", sum := "7ab8d5484fb316f29d0e650b386e4ec7ec7336a5436fa2d8ed78141e3572859f", func := "hedgewright/hedgkeep.HandsAlone", spec := "handsAlone", unfollowed := true, recurses := true, apart := false, narrowed := true }
def HandsAloneUptoSaid : Prop := handsAloneUptoRow.holds Try.pinned (OpenSpec.upto handsAloneSpec)

/-- 'hedgkeep.HandsFree', WHERE WHAT IT READS IS OF BULK AT MOST 1048576: true; the input reads as it did. -/
def handsFreeUptoRow : OpenClaim := { program := "ytoihdnekkgpcoaa", sum := "7ab8d5484fb316f29d0e650b386e4ec7ec7336a5436fa2d8ed78141e3572859f", func := "hedgewright/hedgkeep.HandsFree", spec := "handsFree", unfollowed := true, recurses := true, apart := false, narrowed := true }
def HandsFreeUptoSaid : Prop := handsFreeUptoRow.holds Try.pinned (OpenSpec.upto handsFreeSpec)

/-- 'hedglaw.HandsSay', WHERE WHAT IT READS IS OF BULK AT MOST 1048576: true; the input reads as it did. -/
def handsSayUptoRow : OpenClaim := { program := "ytoihdnekkgpcoaa", sum := "7ab8d5484fb316f29d0e650b386e4ec7ec7336a5436fa2d8ed78141e3572859f", func := "hedgewright/hedglaw.HandsSay", spec := "handsSay", unfollowed := true, recurses := true, apart := false, narrowed := true }
def HandsSayUptoSaid : Prop := handsSayUptoRow.holds Try.pinned (OpenSpec.upto handsSaySpec)

/-- 'hedgkeep.HandsOrder', WHERE WHAT IT READS IS OF BULK AT MOST 1048576: true; the input reads as it did. -/
def handsOrderUptoRow : OpenClaim := { program := "ytoihdnekkgpcoaa", sum := "7ab8d5484fb316f29d0e650b386e4ec7ec7336a5436fa2d8ed78141e3572859f", func := "hedgewright/hedgkeep.HandsOrder", spec := "handsOrder", unfollowed := true, recurses := true, apart := false, narrowed := true }
def HandsOrderUptoSaid : Prop := handsOrderUptoRow.holds Try.pinned (OpenSpec.upto handsOrderSpec)

end Rows
end Go.Proofs.Ytoihdnekkgpcoaa
