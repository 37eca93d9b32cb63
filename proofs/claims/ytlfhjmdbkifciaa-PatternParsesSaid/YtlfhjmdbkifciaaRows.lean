/-
  No cell of these rows narrows 'for every input' (looked for: loops, veiled, ifaces, maps, wideKeys, modest, calm, conditions, laid).
  DERIVED. THE GIVEN ROWS OF THIS SEAT. 10 by the template 'for every input the law returns true; each argument reads behind the call as it read before'; 0 by the template 'total and deterministic' (their statements: YtlfhjmdbkifciaaTotals.lean).
  GIVEN WITH THE SEED: the statements are not yours to turn. If you find one false, say at which input.
  Laid BY PROGRAM, IN A SANDBOX (cutbox-rows.mjs): the forced cells as the released guide's own fill.sh prints them over the translation 4cda430436bf9e07… (all of the seat's roots in one cut). By AI agents, Wed Nov 11 2026. No macro, syntax, notation, axiom, sorry.
-/
import Derived.Test.YtlfhjmdbkifciaaChecked
import GoSem.Claim
import GoSem.ClaimJoined
import GoSem.ClaimMapViews
import Derived.JoinedTies
import Derived.KernelRfl
namespace Go.Proofs.Ytlfhjmdbkifciaa
/- THE CELL 'sum', in the pinned program and in every row, IS THE sha256 OF THE DUMP (.gsa) THAT YtlfhjmdbkifciaaProg.lean LOADS. Nothing in Lean hashes anything: it is a label: what it is worth is what the hold of that sum in a sandbox is worth. -/
noncomputable def Try.pinned : Pinned := { name := "ytlfhjmdbkifciaa", sum := "4cda430436bf9e07b062674c3434a2d320a049af2fc4a3d1a32914bfc52137b9", checked := Try.checked }
namespace Rows
def none {H : Type} : Left H := { results := [], args := [] }

/-- 'dragomanlaw09.PatternTrees': WHATEVER THE INPUT: true; the input reads as it did. -/
def patternTreesSpec : ChangeSpec := { name := "patternTrees", fn := fun _ => fun
  | [d] => { results := [.lit (.bool true)], args := [d] }
  | _ => none }
def patternTreesRow : OpenClaim := { program := "ytlfhjmdbkifciaa", sum := "4cda430436bf9e07b062674c3434a2d320a049af2fc4a3d1a32914bfc52137b9", func := "dragoman/dragomanlaw09.PatternTrees", spec := "patternTrees", inPlace := ["internal/bytealg.IndexByteString", "internal/abi.NoEscape"], unfollowed := true, recurses := true, apart := false }
def PatternTreesSaid : Prop := patternTreesRow.holds Try.pinned (OpenSpec.ofChange patternTreesSpec)

/-- ITS FALSE NEIGHBOUR: 'it returns false'. Refute it at one input. -/
def patternTreesWrong : ChangeSpec := { name := "patternTrees", fn := fun _ => fun
  | [d] => { results := [.lit (.bool false)], args := [d] }
  | _ => none }
def PatternTreesWrongFalsely : Prop := patternTreesRow.holds Try.pinned (OpenSpec.ofChange patternTreesWrong)

/-- 'dragomanlaw09.PatternParses': WHATEVER THE INPUT: true; the input reads as it did. -/
def patternParsesSpec : ChangeSpec := { name := "patternParses", fn := fun _ => fun
  | [d] => { results := [.lit (.bool true)], args := [d] }
  | _ => none }
def patternParsesRow : OpenClaim := { program := "ytlfhjmdbkifciaa", sum := "4cda430436bf9e07b062674c3434a2d320a049af2fc4a3d1a32914bfc52137b9", func := "dragoman/dragomanlaw09.PatternParses", spec := "patternParses", inPlace := ["internal/bytealg.IndexByteString", "internal/abi.NoEscape"], unfollowed := true, recurses := true, apart := false }
def PatternParsesSaid : Prop := patternParsesRow.holds Try.pinned (OpenSpec.ofChange patternParsesSpec)

/-- ITS FALSE NEIGHBOUR: 'it returns false'. Refute it at one input. -/
def patternParsesWrong : ChangeSpec := { name := "patternParses", fn := fun _ => fun
  | [d] => { results := [.lit (.bool false)], args := [d] }
  | _ => none }
def PatternParsesWrongFalsely : Prop := patternParsesRow.holds Try.pinned (OpenSpec.ofChange patternParsesWrong)

/-- 'dragomanlaw09.PatternEscapes': WHATEVER THE INPUT: true; the input reads as it did. -/
def patternEscapesSpec : ChangeSpec := { name := "patternEscapes", fn := fun _ => fun
  | [d] => { results := [.lit (.bool true)], args := [d] }
  | _ => none }
def patternEscapesRow : OpenClaim := { program := "ytlfhjmdbkifciaa", sum := "4cda430436bf9e07b062674c3434a2d320a049af2fc4a3d1a32914bfc52137b9", func := "dragoman/dragomanlaw09.PatternEscapes", spec := "patternEscapes", inPlace := ["internal/bytealg.IndexByteString", "internal/abi.NoEscape"], unfollowed := true, recurses := true, apart := false }
def PatternEscapesSaid : Prop := patternEscapesRow.holds Try.pinned (OpenSpec.ofChange patternEscapesSpec)

/-- ITS FALSE NEIGHBOUR: 'it returns false'. Refute it at one input. -/
def patternEscapesWrong : ChangeSpec := { name := "patternEscapes", fn := fun _ => fun
  | [d] => { results := [.lit (.bool false)], args := [d] }
  | _ => none }
def PatternEscapesWrongFalsely : Prop := patternEscapesRow.holds Try.pinned (OpenSpec.ofChange patternEscapesWrong)

/-- 'dragomanlaw09.PatternGroups': WHATEVER THE INPUT: true; the input reads as it did. -/
def patternGroupsSpec : ChangeSpec := { name := "patternGroups", fn := fun _ => fun
  | [d1, d2] => { results := [.lit (.bool true)], args := [d1, d2] }
  | _ => none }
def patternGroupsRow : OpenClaim := { program := "ytlfhjmdbkifciaa", sum := "4cda430436bf9e07b062674c3434a2d320a049af2fc4a3d1a32914bfc52137b9", func := "dragoman/dragomanlaw09.PatternGroups", spec := "patternGroups", inPlace := ["internal/bytealg.IndexByteString", "internal/abi.NoEscape"], unfollowed := true, recurses := true, apart := false }
def PatternGroupsSaid : Prop := patternGroupsRow.holds Try.pinned (OpenSpec.ofChange patternGroupsSpec)

/-- ITS FALSE NEIGHBOUR: 'it returns false'. Refute it at one input. -/
def patternGroupsWrong : ChangeSpec := { name := "patternGroups", fn := fun _ => fun
  | [d1, d2] => { results := [.lit (.bool false)], args := [d1, d2] }
  | _ => none }
def PatternGroupsWrongFalsely : Prop := patternGroupsRow.holds Try.pinned (OpenSpec.ofChange patternGroupsWrong)

/-- 'dragomanlaw09.PatternNames': WHATEVER THE INPUT: true; the input reads as it did. -/
def patternNamesSpec : ChangeSpec := { name := "patternNames", fn := fun _ => fun
  | [] => { results := [.lit (.bool true)], args := [] }
  | _ => none }
def patternNamesRow : OpenClaim := { program := "ytlfhjmdbkifciaa", sum := "4cda430436bf9e07b062674c3434a2d320a049af2fc4a3d1a32914bfc52137b9", func := "dragoman/dragomanlaw09.PatternNames", spec := "patternNames", inPlace := ["internal/bytealg.IndexByteString", "internal/abi.NoEscape"], unfollowed := true, recurses := true, apart := false }
def PatternNamesSaid : Prop := patternNamesRow.holds Try.pinned (OpenSpec.ofChange patternNamesSpec)

/-- ITS FALSE NEIGHBOUR: 'it returns false'. Refute it at one input. -/
def patternNamesWrong : ChangeSpec := { name := "patternNames", fn := fun _ => fun
  | [] => { results := [.lit (.bool false)], args := [] }
  | _ => none }
def PatternNamesWrongFalsely : Prop := patternNamesRow.holds Try.pinned (OpenSpec.ofChange patternNamesWrong)

/-- 'dragomanlaw09.PatternQuotes': WHATEVER THE INPUT: true; the input reads as it did. -/
def patternQuotesSpec : ChangeSpec := { name := "patternQuotes", fn := fun _ => fun
  | [d] => { results := [.lit (.bool true)], args := [d] }
  | _ => none }
def patternQuotesRow : OpenClaim := { program := "ytlfhjmdbkifciaa", sum := "4cda430436bf9e07b062674c3434a2d320a049af2fc4a3d1a32914bfc52137b9", func := "dragoman/dragomanlaw09.PatternQuotes", spec := "patternQuotes", inPlace := ["internal/bytealg.IndexByteString", "internal/abi.NoEscape"], unfollowed := true, recurses := true, apart := false }
def PatternQuotesSaid : Prop := patternQuotesRow.holds Try.pinned (OpenSpec.ofChange patternQuotesSpec)

/-- ITS FALSE NEIGHBOUR: 'it returns false'. Refute it at one input. -/
def patternQuotesWrong : ChangeSpec := { name := "patternQuotes", fn := fun _ => fun
  | [d] => { results := [.lit (.bool false)], args := [d] }
  | _ => none }
def PatternQuotesWrongFalsely : Prop := patternQuotesRow.holds Try.pinned (OpenSpec.ofChange patternQuotesWrong)

/-- 'dragomanlaw09.PatternUnquotes': WHATEVER THE INPUT: true; the input reads as it did. -/
def patternUnquotesSpec : ChangeSpec := { name := "patternUnquotes", fn := fun _ => fun
  | [d] => { results := [.lit (.bool true)], args := [d] }
  | _ => none }
def patternUnquotesRow : OpenClaim := { program := "ytlfhjmdbkifciaa", sum := "4cda430436bf9e07b062674c3434a2d320a049af2fc4a3d1a32914bfc52137b9", func := "dragoman/dragomanlaw09.PatternUnquotes", spec := "patternUnquotes", inPlace := ["internal/bytealg.IndexByteString", "internal/abi.NoEscape"], unfollowed := true, recurses := true, apart := false }
def PatternUnquotesSaid : Prop := patternUnquotesRow.holds Try.pinned (OpenSpec.ofChange patternUnquotesSpec)

/-- ITS FALSE NEIGHBOUR: 'it returns false'. Refute it at one input. -/
def patternUnquotesWrong : ChangeSpec := { name := "patternUnquotes", fn := fun _ => fun
  | [d] => { results := [.lit (.bool false)], args := [d] }
  | _ => none }
def PatternUnquotesWrongFalsely : Prop := patternUnquotesRow.holds Try.pinned (OpenSpec.ofChange patternUnquotesWrong)

/-- 'dragomanlaw09.PatternBegins': WHATEVER THE INPUT: true; the input reads as it did. -/
def patternBeginsSpec : ChangeSpec := { name := "patternBegins", fn := fun _ => fun
  | [d1, d2] => { results := [.lit (.bool true)], args := [d1, d2] }
  | _ => none }
def patternBeginsRow : OpenClaim := { program := "ytlfhjmdbkifciaa", sum := "4cda430436bf9e07b062674c3434a2d320a049af2fc4a3d1a32914bfc52137b9", func := "dragoman/dragomanlaw09.PatternBegins", spec := "patternBegins", inPlace := ["internal/bytealg.IndexByteString", "internal/abi.NoEscape"], unfollowed := true, recurses := true, apart := false }
def PatternBeginsSaid : Prop := patternBeginsRow.holds Try.pinned (OpenSpec.ofChange patternBeginsSpec)

/-- ITS FALSE NEIGHBOUR: 'it returns false'. Refute it at one input. -/
def patternBeginsWrong : ChangeSpec := { name := "patternBegins", fn := fun _ => fun
  | [d1, d2] => { results := [.lit (.bool false)], args := [d1, d2] }
  | _ => none }
def PatternBeginsWrongFalsely : Prop := patternBeginsRow.holds Try.pinned (OpenSpec.ofChange patternBeginsWrong)

/-- 'dragomanlaw09.PatternBack': WHATEVER THE INPUT: true; the input reads as it did. -/
def patternBackSpec : ChangeSpec := { name := "patternBack", fn := fun _ => fun
  | [d1, d2] => { results := [.lit (.bool true)], args := [d1, d2] }
  | _ => none }
def patternBackRow : OpenClaim := { program := "ytlfhjmdbkifciaa", sum := "4cda430436bf9e07b062674c3434a2d320a049af2fc4a3d1a32914bfc52137b9", func := "dragoman/dragomanlaw09.PatternBack", spec := "patternBack", inPlace := ["internal/bytealg.IndexByteString", "internal/abi.NoEscape"], unfollowed := true, recurses := true, apart := false }
def PatternBackSaid : Prop := patternBackRow.holds Try.pinned (OpenSpec.ofChange patternBackSpec)

/-- ITS FALSE NEIGHBOUR: 'it returns false'. Refute it at one input. -/
def patternBackWrong : ChangeSpec := { name := "patternBack", fn := fun _ => fun
  | [d1, d2] => { results := [.lit (.bool false)], args := [d1, d2] }
  | _ => none }
def PatternBackWrongFalsely : Prop := patternBackRow.holds Try.pinned (OpenSpec.ofChange patternBackWrong)

/-- 'dragomanlaw09.PatternEmpties': WHATEVER THE INPUT: true; the input reads as it did. -/
def patternEmptiesSpec : ChangeSpec := { name := "patternEmpties", fn := fun _ => fun
  | [d] => { results := [.lit (.bool true)], args := [d] }
  | _ => none }
def patternEmptiesRow : OpenClaim := { program := "ytlfhjmdbkifciaa", sum := "4cda430436bf9e07b062674c3434a2d320a049af2fc4a3d1a32914bfc52137b9", func := "dragoman/dragomanlaw09.PatternEmpties", spec := "patternEmpties", inPlace := ["internal/bytealg.IndexByteString", "internal/abi.NoEscape"], unfollowed := true, recurses := true, apart := false }
def PatternEmptiesSaid : Prop := patternEmptiesRow.holds Try.pinned (OpenSpec.ofChange patternEmptiesSpec)

/-- ITS FALSE NEIGHBOUR: 'it returns false'. Refute it at one input. -/
def patternEmptiesWrong : ChangeSpec := { name := "patternEmpties", fn := fun _ => fun
  | [d] => { results := [.lit (.bool false)], args := [d] }
  | _ => none }
def PatternEmptiesWrongFalsely : Prop := patternEmptiesRow.holds Try.pinned (OpenSpec.ofChange patternEmptiesWrong)

/- THE SECOND FORM. 'bulk': how many values and letters a reading holds, each counted each time it is reached (what is shared counts as often as it is met; a slice's spare places count too). A statement '..UptoSaid' is the law's where the arguments, and the package variables that the reading takes, are together of bulk at most 1048576: NARROWER than '..Said'. Prove '..Said' where nothing that the law and all that it calls make is longer than what came in: it says more and counts as full. Else prove '..UptoSaid'. A law counts once. -/
mutual
def uptoBulk {H : Type} : DataW H → Nat
  | .lit (.string bytes) => bytes.length + 1
  | .lit _ => 1
  | .nil => 1
  | .ptr d => uptoBulk d + 1
  | .slice elems spare => uptoBulkAll elems + uptoBulkAll spare + 1
  | .agg parts => uptoBulkAll parts + 1
  | .iface _ d => uptoBulk d + 1
  | .map entries => uptoBulkEntries entries + 1
  | .held _ => 1
def uptoBulkAll {H : Type} : List (DataW H) → Nat
  | [] => 0
  | d :: r => uptoBulk d + uptoBulkAll r
def uptoBulkEntries {H : Type} : List (Lit × DataW H) → Nat
  | [] => 0
  | x :: r => uptoBulkEntry x + uptoBulkEntries r
def uptoBulkEntry {H : Type} : Lit × DataW H → Nat
  | (.string bytes, d) => bytes.length + uptoBulk d + 1
  | (_, d) => uptoBulk d + 1
 end
def uptoSmall : (H : Type) → List (DataW H) → Bool := fun _ ds => decide (uptoBulkAll ds ≤ 1048576)
def OpenSpec.upto (s : _root_.Go.ChangeSpec) : _root_.Go.OpenSpec := { _root_.Go.OpenSpec.ofChange s with cond := some uptoSmall }

/-- 'dragomanlaw09.PatternTrees', WHERE WHAT IT READS IS OF BULK AT MOST 1048576: true; the input reads as it did. -/
def patternTreesUptoRow : OpenClaim := { program := "ytlfhjmdbkifciaa", sum := "4cda430436bf9e07b062674c3434a2d320a049af2fc4a3d1a32914bfc52137b9", func := "dragoman/dragomanlaw09.PatternTrees", spec := "patternTrees", inPlace := ["internal/bytealg.IndexByteString", "internal/abi.NoEscape"], unfollowed := true, recurses := true, apart := false, narrowed := true }
def PatternTreesUptoSaid : Prop := patternTreesUptoRow.holds Try.pinned (OpenSpec.upto patternTreesSpec)

/-- 'dragomanlaw09.PatternParses', WHERE WHAT IT READS IS OF BULK AT MOST 1048576: true; the input reads as it did. -/
def patternParsesUptoRow : OpenClaim := { program := "ytlfhjmdbkifciaa", sum := "4cda430436bf9e07b062674c3434a2d320a049af2fc4a3d1a32914bfc52137b9", func := "dragoman/dragomanlaw09.PatternParses", spec := "patternParses", inPlace := ["internal/bytealg.IndexByteString", "internal/abi.NoEscape"], unfollowed := true, recurses := true, apart := false, narrowed := true }
def PatternParsesUptoSaid : Prop := patternParsesUptoRow.holds Try.pinned (OpenSpec.upto patternParsesSpec)

/-- 'dragomanlaw09.PatternEscapes', WHERE WHAT IT READS IS OF BULK AT MOST 1048576: true; the input reads as it did. -/
def patternEscapesUptoRow : OpenClaim := { program := "ytlfhjmdbkifciaa", sum := "4cda430436bf9e07b062674c3434a2d320a049af2fc4a3d1a32914bfc52137b9", func := "dragoman/dragomanlaw09.PatternEscapes", spec := "patternEscapes", inPlace := ["internal/bytealg.IndexByteString", "internal/abi.NoEscape"], unfollowed := true, recurses := true, apart := false, narrowed := true }
def PatternEscapesUptoSaid : Prop := patternEscapesUptoRow.holds Try.pinned (OpenSpec.upto patternEscapesSpec)

/-- 'dragomanlaw09.PatternGroups', WHERE WHAT IT READS IS OF BULK AT MOST 1048576: true; the input reads as it did. -/
def patternGroupsUptoRow : OpenClaim := { program := "ytlfhjmdbkifciaa", sum := "4cda430436bf9e07b062674c3434a2d320a049af2fc4a3d1a32914bfc52137b9", func := "dragoman/dragomanlaw09.PatternGroups", spec := "patternGroups", inPlace := ["internal/bytealg.IndexByteString", "internal/abi.NoEscape"], unfollowed := true, recurses := true, apart := false, narrowed := true }
def PatternGroupsUptoSaid : Prop := patternGroupsUptoRow.holds Try.pinned (OpenSpec.upto patternGroupsSpec)

/-- 'dragomanlaw09.PatternNames', WHERE WHAT IT READS IS OF BULK AT MOST 1048576: true; the input reads as it did. -/
def patternNamesUptoRow : OpenClaim := { program := "ytlfhjmdbkifciaa", sum := "4cda430436bf9e07b062674c3434a2d320a049af2fc4a3d1a32914bfc52137b9", func := "dragoman/dragomanlaw09.PatternNames", spec := "patternNames", inPlace := ["internal/bytealg.IndexByteString", "internal/abi.NoEscape"], unfollowed := true, recurses := true, apart := false, narrowed := true }
def PatternNamesUptoSaid : Prop := patternNamesUptoRow.holds Try.pinned (OpenSpec.upto patternNamesSpec)

/-- 'dragomanlaw09.PatternQuotes', WHERE WHAT IT READS IS OF BULK AT MOST 1048576: true; the input reads as it did. -/
def patternQuotesUptoRow : OpenClaim := { program := "ytlfhjmdbkifciaa", sum := "4cda430436bf9e07b062674c3434a2d320a049af2fc4a3d1a32914bfc52137b9", func := "dragoman/dragomanlaw09.PatternQuotes", spec := "patternQuotes", inPlace := ["internal/bytealg.IndexByteString", "internal/abi.NoEscape"], unfollowed := true, recurses := true, apart := false, narrowed := true }
def PatternQuotesUptoSaid : Prop := patternQuotesUptoRow.holds Try.pinned (OpenSpec.upto patternQuotesSpec)

/-- 'dragomanlaw09.PatternUnquotes', WHERE WHAT IT READS IS OF BULK AT MOST 1048576: true; the input reads as it did. -/
def patternUnquotesUptoRow : OpenClaim := { program := "ytlfhjmdbkifciaa", sum := "4cda430436bf9e07b062674c3434a2d320a049af2fc4a3d1a32914bfc52137b9", func := "dragoman/dragomanlaw09.PatternUnquotes", spec := "patternUnquotes", inPlace := ["internal/bytealg.IndexByteString", "internal/abi.NoEscape"], unfollowed := true, recurses := true, apart := false, narrowed := true }
def PatternUnquotesUptoSaid : Prop := patternUnquotesUptoRow.holds Try.pinned (OpenSpec.upto patternUnquotesSpec)

/-- 'dragomanlaw09.PatternBegins', WHERE WHAT IT READS IS OF BULK AT MOST 1048576: true; the input reads as it did. -/
def patternBeginsUptoRow : OpenClaim := { program := "ytlfhjmdbkifciaa", sum := "4cda430436bf9e07b062674c3434a2d320a049af2fc4a3d1a32914bfc52137b9", func := "dragoman/dragomanlaw09.PatternBegins", spec := "patternBegins", inPlace := ["internal/bytealg.IndexByteString", "internal/abi.NoEscape"], unfollowed := true, recurses := true, apart := false, narrowed := true }
def PatternBeginsUptoSaid : Prop := patternBeginsUptoRow.holds Try.pinned (OpenSpec.upto patternBeginsSpec)

/-- 'dragomanlaw09.PatternBack', WHERE WHAT IT READS IS OF BULK AT MOST 1048576: true; the input reads as it did. -/
def patternBackUptoRow : OpenClaim := { program := "ytlfhjmdbkifciaa", sum := "4cda430436bf9e07b062674c3434a2d320a049af2fc4a3d1a32914bfc52137b9", func := "dragoman/dragomanlaw09.PatternBack", spec := "patternBack", inPlace := ["internal/bytealg.IndexByteString", "internal/abi.NoEscape"], unfollowed := true, recurses := true, apart := false, narrowed := true }
def PatternBackUptoSaid : Prop := patternBackUptoRow.holds Try.pinned (OpenSpec.upto patternBackSpec)

/-- 'dragomanlaw09.PatternEmpties', WHERE WHAT IT READS IS OF BULK AT MOST 1048576: true; the input reads as it did. -/
def patternEmptiesUptoRow : OpenClaim := { program := "ytlfhjmdbkifciaa", sum := "4cda430436bf9e07b062674c3434a2d320a049af2fc4a3d1a32914bfc52137b9", func := "dragoman/dragomanlaw09.PatternEmpties", spec := "patternEmpties", inPlace := ["internal/bytealg.IndexByteString", "internal/abi.NoEscape"], unfollowed := true, recurses := true, apart := false, narrowed := true }
def PatternEmptiesUptoSaid : Prop := patternEmptiesUptoRow.holds Try.pinned (OpenSpec.upto patternEmptiesSpec)

end Rows
end Go.Proofs.Ytlfhjmdbkifciaa
