/-
  No cell of these rows narrows 'for every input' (looked for: loops, veiled, ifaces, maps, wideKeys, modest, calm, conditions, laid).
  DERIVED. THE GIVEN ROWS OF THIS SEAT. 5 by the template 'for every input the law returns true; each argument reads behind the call as it read before'; 0 by the template 'total and deterministic' (their statements: YtbapifbahhjfgaaTotals.lean).
  GIVEN WITH THE SEED: the statements are not yours to turn. If you find one false, say at which input.
  Laid BY PROGRAM, IN A SANDBOX (cutbox-rows.mjs): the forced cells as the released guide's own fill.sh prints them over the translation 42d30d0972958066… (all of the seat's roots in one cut). By AI agents, Wed Nov 11 2026. No macro, syntax, notation, axiom, sorry.
-/
import Derived.Test.YtbapifbahhjfgaaChecked
import GoSem.Claim
import GoSem.ClaimJoined
import GoSem.ClaimMapViews
import Derived.JoinedTies
import Derived.KernelRfl
namespace Go.Proofs.Ytbapifbahhjfgaa
/- THE CELL 'sum', in the pinned program and in every row, IS THE sha256 OF THE DUMP (.gsa) THAT YtbapifbahhjfgaaProg.lean LOADS. Nothing in Lean hashes anything: it is a label: what it is worth is what the hold of that sum in a sandbox is worth. -/
noncomputable def Try.pinned : Pinned := { name := "ytbapifbahhjfgaa", sum := "42d30d097295806678a6428eebbc04a3a394b138132ca4604014932a8c39cb3d", checked := Try.checked }
namespace Rows
def none {H : Type} : Left H := { results := [], args := [] }

/-- 'dragomanlaw17.MessageReads': WHATEVER THE INPUT: true; the input reads as it did. -/
def messageReadsSpec : ChangeSpec := { name := "messageReads", fn := fun _ => fun
  | [d] => { results := [.lit (.bool true)], args := [d] }
  | _ => none }
def messageReadsRow : OpenClaim := { program := "ytbapifbahhjfgaa", sum := "42d30d097295806678a6428eebbc04a3a394b138132ca4604014932a8c39cb3d", func := "dragoman/dragomanlaw17.MessageReads", spec := "messageReads", apart := false }
def MessageReadsSaid : Prop := messageReadsRow.holds Try.pinned (OpenSpec.ofChange messageReadsSpec)

/-- ITS FALSE NEIGHBOUR: 'it returns false'. Refute it at one input. -/
def messageReadsWrong : ChangeSpec := { name := "messageReads", fn := fun _ => fun
  | [d] => { results := [.lit (.bool false)], args := [d] }
  | _ => none }
def MessageReadsWrongFalsely : Prop := messageReadsRow.holds Try.pinned (OpenSpec.ofChange messageReadsWrong)

/-- 'dragomanlaw17.MessageBack': WHATEVER THE INPUT: true; the input reads as it did. -/
def messageBackSpec : ChangeSpec := { name := "messageBack", fn := fun _ => fun
  | [d1, d2, d3, d4] => { results := [.lit (.bool true)], args := [d1, d2, d3, d4] }
  | _ => none }
def messageBackRow : OpenClaim := { program := "ytbapifbahhjfgaa", sum := "42d30d097295806678a6428eebbc04a3a394b138132ca4604014932a8c39cb3d", func := "dragoman/dragomanlaw17.MessageBack", spec := "messageBack", apart := false }
def MessageBackSaid : Prop := messageBackRow.holds Try.pinned (OpenSpec.ofChange messageBackSpec)

/-- ITS FALSE NEIGHBOUR: 'it returns false'. Refute it at one input. -/
def messageBackWrong : ChangeSpec := { name := "messageBack", fn := fun _ => fun
  | [d1, d2, d3, d4] => { results := [.lit (.bool false)], args := [d1, d2, d3, d4] }
  | _ => none }
def MessageBackWrongFalsely : Prop := messageBackRow.holds Try.pinned (OpenSpec.ofChange messageBackWrong)

/-- 'dragomanlaw17.MessageKnown': WHATEVER THE INPUT: true; the input reads as it did. -/
def messageKnownSpec : ChangeSpec := { name := "messageKnown", fn := fun _ => fun
  | [] => { results := [.lit (.bool true)], args := [] }
  | _ => none }
def messageKnownRow : OpenClaim := { program := "ytbapifbahhjfgaa", sum := "42d30d097295806678a6428eebbc04a3a394b138132ca4604014932a8c39cb3d", func := "dragoman/dragomanlaw17.MessageKnown", spec := "messageKnown", apart := false }
def MessageKnownSaid : Prop := messageKnownRow.holds Try.pinned (OpenSpec.ofChange messageKnownSpec)

/-- ITS FALSE NEIGHBOUR: 'it returns false'. Refute it at one input. -/
def messageKnownWrong : ChangeSpec := { name := "messageKnown", fn := fun _ => fun
  | [] => { results := [.lit (.bool false)], args := [] }
  | _ => none }
def MessageKnownWrongFalsely : Prop := messageKnownRow.holds Try.pinned (OpenSpec.ofChange messageKnownWrong)

/-- 'dragomanlaw17.MessageAbove': WHATEVER THE INPUT: true; the input reads as it did. -/
def messageAboveSpec : ChangeSpec := { name := "messageAbove", fn := fun _ => fun
  | [d1, d2, d3] => { results := [.lit (.bool true)], args := [d1, d2, d3] }
  | _ => none }
def messageAboveRow : OpenClaim := { program := "ytbapifbahhjfgaa", sum := "42d30d097295806678a6428eebbc04a3a394b138132ca4604014932a8c39cb3d", func := "dragoman/dragomanlaw17.MessageAbove", spec := "messageAbove", apart := false }
def MessageAboveSaid : Prop := messageAboveRow.holds Try.pinned (OpenSpec.ofChange messageAboveSpec)

/-- ITS FALSE NEIGHBOUR: 'it returns false'. Refute it at one input. -/
def messageAboveWrong : ChangeSpec := { name := "messageAbove", fn := fun _ => fun
  | [d1, d2, d3] => { results := [.lit (.bool false)], args := [d1, d2, d3] }
  | _ => none }
def MessageAboveWrongFalsely : Prop := messageAboveRow.holds Try.pinned (OpenSpec.ofChange messageAboveWrong)

/-- 'dragomanlaw17.MessageCodes': WHATEVER THE INPUT: true; the input reads as it did. -/
def messageCodesSpec : ChangeSpec := { name := "messageCodes", fn := fun _ => fun
  | [d] => { results := [.lit (.bool true)], args := [d] }
  | _ => none }
def messageCodesRow : OpenClaim := { program := "ytbapifbahhjfgaa", sum := "42d30d097295806678a6428eebbc04a3a394b138132ca4604014932a8c39cb3d", func := "dragoman/dragomanlaw17.MessageCodes", spec := "messageCodes", apart := false }
def MessageCodesSaid : Prop := messageCodesRow.holds Try.pinned (OpenSpec.ofChange messageCodesSpec)

/-- ITS FALSE NEIGHBOUR: 'it returns false'. Refute it at one input. -/
def messageCodesWrong : ChangeSpec := { name := "messageCodes", fn := fun _ => fun
  | [d] => { results := [.lit (.bool false)], args := [d] }
  | _ => none }
def MessageCodesWrongFalsely : Prop := messageCodesRow.holds Try.pinned (OpenSpec.ofChange messageCodesWrong)

/- THE SECOND FORM. 'bulk': how many values and letters a reading holds, each counted each time it is reached (what is shared counts as often as it is met; a slice's spare places count too). A statement '..UptoSaid' is the law's where the arguments, and the package variables that the reading takes, are together of bulk at most 1048576: NARROWER than '..Said'. Prove '..Said' where nothing that the law and all that it calls make is longer than what came in: it says more and counts as full. Else prove '..UptoSaid'. A law counts once. -/
mutual
def uptoBulk {H : Type} : DataW H → Nat
  | .lit (.string bytes) => bytes.length + 1
  | .lit _ => 1
  | .nil => 1
  | .ptr d => uptoBulk d + 1
  | .slice elems spare => uptoBulkAll elems + uptoBulkAll spare + 1
  | .agg parts => uptoBulkAll parts + 1
  | .iface _ d => uptoBulk d + 1
  | .map entries => uptoBulkEntries entries + 1
  | .held _ => 1
def uptoBulkAll {H : Type} : List (DataW H) → Nat
  | [] => 0
  | d :: r => uptoBulk d + uptoBulkAll r
def uptoBulkEntries {H : Type} : List (Lit × DataW H) → Nat
  | [] => 0
  | x :: r => uptoBulkEntry x + uptoBulkEntries r
def uptoBulkEntry {H : Type} : Lit × DataW H → Nat
  | (.string bytes, d) => bytes.length + uptoBulk d + 1
  | (_, d) => uptoBulk d + 1
 end
def uptoSmall : (H : Type) → List (DataW H) → Bool := fun _ ds => decide (uptoBulkAll ds ≤ 1048576)
def OpenSpec.upto (s : _root_.Go.ChangeSpec) : _root_.Go.OpenSpec := { _root_.Go.OpenSpec.ofChange s with cond := some uptoSmall }

/-- 'dragomanlaw17.MessageReads', WHERE WHAT IT READS IS OF BULK AT MOST 1048576: true; the input reads as it did. -/
def messageReadsUptoRow : OpenClaim := { program := "ytbapifbahhjfgaa", sum := "42d30d097295806678a6428eebbc04a3a394b138132ca4604014932a8c39cb3d", func := "dragoman/dragomanlaw17.MessageReads", spec := "messageReads", apart := false, narrowed := true }
def MessageReadsUptoSaid : Prop := messageReadsUptoRow.holds Try.pinned (OpenSpec.upto messageReadsSpec)

/-- 'dragomanlaw17.MessageBack', WHERE WHAT IT READS IS OF BULK AT MOST 1048576: true; the input reads as it did. -/
def messageBackUptoRow : OpenClaim := { program := "ytbapifbahhjfgaa", sum := "42d30d097295806678a6428eebbc04a3a394b138132ca4604014932a8c39cb3d", func := "dragoman/dragomanlaw17.MessageBack", spec := "messageBack", apart := false, narrowed := true }
def MessageBackUptoSaid : Prop := messageBackUptoRow.holds Try.pinned (OpenSpec.upto messageBackSpec)

/-- 'dragomanlaw17.MessageKnown', WHERE WHAT IT READS IS OF BULK AT MOST 1048576: true; the input reads as it did. -/
def messageKnownUptoRow : OpenClaim := { program := "ytbapifbahhjfgaa", sum := "42d30d097295806678a6428eebbc04a3a394b138132ca4604014932a8c39cb3d", func := "dragoman/dragomanlaw17.MessageKnown", spec := "messageKnown", apart := false, narrowed := true }
def MessageKnownUptoSaid : Prop := messageKnownUptoRow.holds Try.pinned (OpenSpec.upto messageKnownSpec)

/-- 'dragomanlaw17.MessageAbove', WHERE WHAT IT READS IS OF BULK AT MOST 1048576: true; the input reads as it did. -/
def messageAboveUptoRow : OpenClaim := { program := "ytbapifbahhjfgaa", sum := "42d30d097295806678a6428eebbc04a3a394b138132ca4604014932a8c39cb3d", func := "dragoman/dragomanlaw17.MessageAbove", spec := "messageAbove", apart := false, narrowed := true }
def MessageAboveUptoSaid : Prop := messageAboveUptoRow.holds Try.pinned (OpenSpec.upto messageAboveSpec)

/-- 'dragomanlaw17.MessageCodes', WHERE WHAT IT READS IS OF BULK AT MOST 1048576: true; the input reads as it did. -/
def messageCodesUptoRow : OpenClaim := { program := "ytbapifbahhjfgaa", sum := "42d30d097295806678a6428eebbc04a3a394b138132ca4604014932a8c39cb3d", func := "dragoman/dragomanlaw17.MessageCodes", spec := "messageCodes", apart := false, narrowed := true }
def MessageCodesUptoSaid : Prop := messageCodesUptoRow.holds Try.pinned (OpenSpec.upto messageCodesSpec)

end Rows
end Go.Proofs.Ytbapifbahhjfgaa
