/-
  NARROWER THAN 'FOR EVERY INPUT', by the rows' own cells (each row's printed sentence says how): MatchFirst: laid · MatchLiterals: laid · MatchKeeps: laid · MatchFeeds: laid · MatchPieces: laid · MatchWindow: laid · MatchEarly: laid · MatchCopies: laid · MatchNames: laid.
  DERIVED. THE GIVEN ROWS OF THIS SEAT. 9 by the template 'for every input the law returns true; each argument reads behind the call as it read before'; 0 by the template 'total and deterministic' (their statements: YtfhggnbnbopkkaaDoorTotals.lean).
  GIVEN WITH THE SEED: the statements are not yours to turn. If you find one false, say at which input.
  Laid BY PROGRAM, IN A SANDBOX (cutbox-rows.mjs): the forced cells as the released guide's own fill.sh prints them over the translation 77a8b005f0e39636… (all of the seat's roots in one cut). By AI agents, Wed Nov 11 2026. No macro, syntax, notation, axiom, sorry.
-/
import Derived.Test.YtfhggnbnbopkkaaDoorChecked
import GoSem.Claim
import GoSem.ClaimJoined
import GoSem.ClaimMapViews
import Derived.JoinedTies
import Derived.KernelRfl
namespace Go.Proofs.YtfhggnbnbopkkaaDoor
/- THE CELL 'sum', in the pinned program and in every row, IS THE sha256 OF THE DUMP (.gsa) THAT YtfhggnbnbopkkaaDoorProg.lean LOADS. Nothing in Lean hashes anything: it is a label: what it is worth is what the hold of that sum in a sandbox is worth. -/
noncomputable def Tryd.pinned : Pinned := { name := "ytfhggnbnbopkkaadoor", sum := "77a8b005f0e3963606dca9bfb50e6f269ecbd6a52947046e77e96397a1f0ae1b", checked := Tryd.checked }
namespace Rows
def none {H : Type} : Left H := { results := [], args := [] }

/- WHAT THE LISTED PACKAGE-LEVEL VARIABLES READ AS WHEN THE CALL BEGINS. Each datum BY PROGRAM (the guide's laid-datum.mjs) off the statement by which the dump's own 'gosem.cut.vars' lays the variable. In a bare row this is a premise. The card (YtfhggnbnbopkkaaDoorCards.lean) ties it to the program's text. -/
def laid_math_bits_deBruijn64tab {H : Type} : DataW H := .agg [.lit (.int .u8 0), .lit (.int .u8 1), .lit (.int .u8 56), .lit (.int .u8 2), .lit (.int .u8 57), .lit (.int .u8 49), .lit (.int .u8 28), .lit (.int .u8 3), .lit (.int .u8 61), .lit (.int .u8 58), .lit (.int .u8 42), .lit (.int .u8 50), .lit (.int .u8 38), .lit (.int .u8 29), .lit (.int .u8 17), .lit (.int .u8 4), .lit (.int .u8 62), .lit (.int .u8 47), .lit (.int .u8 59), .lit (.int .u8 36), .lit (.int .u8 45), .lit (.int .u8 43), .lit (.int .u8 51), .lit (.int .u8 22), .lit (.int .u8 53), .lit (.int .u8 39), .lit (.int .u8 33), .lit (.int .u8 30), .lit (.int .u8 24), .lit (.int .u8 18), .lit (.int .u8 12), .lit (.int .u8 5), .lit (.int .u8 63), .lit (.int .u8 55), .lit (.int .u8 48), .lit (.int .u8 27), .lit (.int .u8 60), .lit (.int .u8 41), .lit (.int .u8 37), .lit (.int .u8 16), .lit (.int .u8 46), .lit (.int .u8 35), .lit (.int .u8 44), .lit (.int .u8 21), .lit (.int .u8 52), .lit (.int .u8 32), .lit (.int .u8 23), .lit (.int .u8 11), .lit (.int .u8 54), .lit (.int .u8 26), .lit (.int .u8 40), .lit (.int .u8 15), .lit (.int .u8 34), .lit (.int .u8 20), .lit (.int .u8 31), .lit (.int .u8 10), .lit (.int .u8 25), .lit (.int .u8 14), .lit (.int .u8 19), .lit (.int .u8 9), .lit (.int .u8 13), .lit (.int .u8 8), .lit (.int .u8 7), .lit (.int .u8 6)]

/-- 'dragomanlaw11.MatchFirst': WHATEVER THE INPUT: true; the input reads as it did. -/
def matchFirstSpec : ChangeSpec := { name := "matchFirst", fn := fun _ => fun
  | [d1, d2] => { results := [.lit (.bool true)], args := [d1, d2] }
  | _ => none }
def matchFirstRow : OpenClaim := { program := "ytfhggnbnbopkkaadoor", sum := "77a8b005f0e3963606dca9bfb50e6f269ecbd6a52947046e77e96397a1f0ae1b", func := "dragoman/dragomanlaw11.MatchFirst", spec := "matchFirst", unfollowed := true, recurses := true, named := ["math/bits.deBruijn64tab"], apart := false, laid := [("math/bits.deBruijn64tab", laid_math_bits_deBruijn64tab)] }
def MatchFirstSaid : Prop := matchFirstRow.holds Tryd.pinned (OpenSpec.ofChange matchFirstSpec)

/-- ITS FALSE NEIGHBOUR: 'it returns false'. Refute it at one input. -/
def matchFirstWrong : ChangeSpec := { name := "matchFirst", fn := fun _ => fun
  | [d1, d2] => { results := [.lit (.bool false)], args := [d1, d2] }
  | _ => none }
def MatchFirstWrongFalsely : Prop := matchFirstRow.holds Tryd.pinned (OpenSpec.ofChange matchFirstWrong)

/-- 'dragomanlaw11.MatchLiterals': WHATEVER THE INPUT: true; the input reads as it did. -/
def matchLiteralsSpec : ChangeSpec := { name := "matchLiterals", fn := fun _ => fun
  | [d1, d2] => { results := [.lit (.bool true)], args := [d1, d2] }
  | _ => none }
def matchLiteralsRow : OpenClaim := { program := "ytfhggnbnbopkkaadoor", sum := "77a8b005f0e3963606dca9bfb50e6f269ecbd6a52947046e77e96397a1f0ae1b", func := "dragoman/dragomanlaw11.MatchLiterals", spec := "matchLiterals", unfollowed := true, recurses := true, named := ["math/bits.deBruijn64tab"], apart := false, laid := [("math/bits.deBruijn64tab", laid_math_bits_deBruijn64tab)] }
def MatchLiteralsSaid : Prop := matchLiteralsRow.holds Tryd.pinned (OpenSpec.ofChange matchLiteralsSpec)

/-- ITS FALSE NEIGHBOUR: 'it returns false'. Refute it at one input. -/
def matchLiteralsWrong : ChangeSpec := { name := "matchLiterals", fn := fun _ => fun
  | [d1, d2] => { results := [.lit (.bool false)], args := [d1, d2] }
  | _ => none }
def MatchLiteralsWrongFalsely : Prop := matchLiteralsRow.holds Tryd.pinned (OpenSpec.ofChange matchLiteralsWrong)

/-- 'dragomanlaw11.MatchKeeps': WHATEVER THE INPUT: true; the input reads as it did. -/
def matchKeepsSpec : ChangeSpec := { name := "matchKeeps", fn := fun _ => fun
  | [d1, d2] => { results := [.lit (.bool true)], args := [d1, d2] }
  | _ => none }
def matchKeepsRow : OpenClaim := { program := "ytfhggnbnbopkkaadoor", sum := "77a8b005f0e3963606dca9bfb50e6f269ecbd6a52947046e77e96397a1f0ae1b", func := "dragoman/dragomanlaw11.MatchKeeps", spec := "matchKeeps", unfollowed := true, recurses := true, named := ["math/bits.deBruijn64tab"], apart := false, laid := [("math/bits.deBruijn64tab", laid_math_bits_deBruijn64tab)] }
def MatchKeepsSaid : Prop := matchKeepsRow.holds Tryd.pinned (OpenSpec.ofChange matchKeepsSpec)

/-- ITS FALSE NEIGHBOUR: 'it returns false'. Refute it at one input. -/
def matchKeepsWrong : ChangeSpec := { name := "matchKeeps", fn := fun _ => fun
  | [d1, d2] => { results := [.lit (.bool false)], args := [d1, d2] }
  | _ => none }
def MatchKeepsWrongFalsely : Prop := matchKeepsRow.holds Tryd.pinned (OpenSpec.ofChange matchKeepsWrong)

/-- 'dragomanlaw11.MatchFeeds': WHATEVER THE INPUT: true; the input reads as it did. -/
def matchFeedsSpec : ChangeSpec := { name := "matchFeeds", fn := fun _ => fun
  | [d1, d2] => { results := [.lit (.bool true)], args := [d1, d2] }
  | _ => none }
def matchFeedsRow : OpenClaim := { program := "ytfhggnbnbopkkaadoor", sum := "77a8b005f0e3963606dca9bfb50e6f269ecbd6a52947046e77e96397a1f0ae1b", func := "dragoman/dragomanlaw11.MatchFeeds", spec := "matchFeeds", unfollowed := true, recurses := true, named := ["math/bits.deBruijn64tab"], apart := false, laid := [("math/bits.deBruijn64tab", laid_math_bits_deBruijn64tab)] }
def MatchFeedsSaid : Prop := matchFeedsRow.holds Tryd.pinned (OpenSpec.ofChange matchFeedsSpec)

/-- ITS FALSE NEIGHBOUR: 'it returns false'. Refute it at one input. -/
def matchFeedsWrong : ChangeSpec := { name := "matchFeeds", fn := fun _ => fun
  | [d1, d2] => { results := [.lit (.bool false)], args := [d1, d2] }
  | _ => none }
def MatchFeedsWrongFalsely : Prop := matchFeedsRow.holds Tryd.pinned (OpenSpec.ofChange matchFeedsWrong)

/-- 'dragomanlaw11.MatchPieces': WHATEVER THE INPUT: true; the input reads as it did. -/
def matchPiecesSpec : ChangeSpec := { name := "matchPieces", fn := fun _ => fun
  | [d1, d2] => { results := [.lit (.bool true)], args := [d1, d2] }
  | _ => none }
def matchPiecesRow : OpenClaim := { program := "ytfhggnbnbopkkaadoor", sum := "77a8b005f0e3963606dca9bfb50e6f269ecbd6a52947046e77e96397a1f0ae1b", func := "dragoman/dragomanlaw11.MatchPieces", spec := "matchPieces", unfollowed := true, recurses := true, named := ["math/bits.deBruijn64tab"], apart := false, laid := [("math/bits.deBruijn64tab", laid_math_bits_deBruijn64tab)] }
def MatchPiecesSaid : Prop := matchPiecesRow.holds Tryd.pinned (OpenSpec.ofChange matchPiecesSpec)

/-- ITS FALSE NEIGHBOUR: 'it returns false'. Refute it at one input. -/
def matchPiecesWrong : ChangeSpec := { name := "matchPieces", fn := fun _ => fun
  | [d1, d2] => { results := [.lit (.bool false)], args := [d1, d2] }
  | _ => none }
def MatchPiecesWrongFalsely : Prop := matchPiecesRow.holds Tryd.pinned (OpenSpec.ofChange matchPiecesWrong)

/-- 'dragomanlaw11.MatchWindow': WHATEVER THE INPUT: true; the input reads as it did. -/
def matchWindowSpec : ChangeSpec := { name := "matchWindow", fn := fun _ => fun
  | [d1, d2] => { results := [.lit (.bool true)], args := [d1, d2] }
  | _ => none }
def matchWindowRow : OpenClaim := { program := "ytfhggnbnbopkkaadoor", sum := "77a8b005f0e3963606dca9bfb50e6f269ecbd6a52947046e77e96397a1f0ae1b", func := "dragoman/dragomanlaw11.MatchWindow", spec := "matchWindow", unfollowed := true, recurses := true, named := ["math/bits.deBruijn64tab"], apart := false, laid := [("math/bits.deBruijn64tab", laid_math_bits_deBruijn64tab)] }
def MatchWindowSaid : Prop := matchWindowRow.holds Tryd.pinned (OpenSpec.ofChange matchWindowSpec)

/-- ITS FALSE NEIGHBOUR: 'it returns false'. Refute it at one input. -/
def matchWindowWrong : ChangeSpec := { name := "matchWindow", fn := fun _ => fun
  | [d1, d2] => { results := [.lit (.bool false)], args := [d1, d2] }
  | _ => none }
def MatchWindowWrongFalsely : Prop := matchWindowRow.holds Tryd.pinned (OpenSpec.ofChange matchWindowWrong)

/-- 'dragomanlaw11.MatchEarly': WHATEVER THE INPUT: true; the input reads as it did. -/
def matchEarlySpec : ChangeSpec := { name := "matchEarly", fn := fun _ => fun
  | [d1, d2, d3] => { results := [.lit (.bool true)], args := [d1, d2, d3] }
  | _ => none }
def matchEarlyRow : OpenClaim := { program := "ytfhggnbnbopkkaadoor", sum := "77a8b005f0e3963606dca9bfb50e6f269ecbd6a52947046e77e96397a1f0ae1b", func := "dragoman/dragomanlaw11.MatchEarly", spec := "matchEarly", unfollowed := true, recurses := true, named := ["math/bits.deBruijn64tab"], apart := false, laid := [("math/bits.deBruijn64tab", laid_math_bits_deBruijn64tab)] }
def MatchEarlySaid : Prop := matchEarlyRow.holds Tryd.pinned (OpenSpec.ofChange matchEarlySpec)

/-- ITS FALSE NEIGHBOUR: 'it returns false'. Refute it at one input. -/
def matchEarlyWrong : ChangeSpec := { name := "matchEarly", fn := fun _ => fun
  | [d1, d2, d3] => { results := [.lit (.bool false)], args := [d1, d2, d3] }
  | _ => none }
def MatchEarlyWrongFalsely : Prop := matchEarlyRow.holds Tryd.pinned (OpenSpec.ofChange matchEarlyWrong)

/-- 'dragomanlaw11.MatchCopies': WHATEVER THE INPUT: true; the input reads as it did. -/
def matchCopiesSpec : ChangeSpec := { name := "matchCopies", fn := fun _ => fun
  | [d1, d2, d3, d4] => { results := [.lit (.bool true)], args := [d1, d2, d3, d4] }
  | _ => none }
def matchCopiesRow : OpenClaim := { program := "ytfhggnbnbopkkaadoor", sum := "77a8b005f0e3963606dca9bfb50e6f269ecbd6a52947046e77e96397a1f0ae1b", func := "dragoman/dragomanlaw11.MatchCopies", spec := "matchCopies", unfollowed := true, recurses := true, named := ["math/bits.deBruijn64tab"], apart := false, laid := [("math/bits.deBruijn64tab", laid_math_bits_deBruijn64tab)] }
def MatchCopiesSaid : Prop := matchCopiesRow.holds Tryd.pinned (OpenSpec.ofChange matchCopiesSpec)

/-- ITS FALSE NEIGHBOUR: 'it returns false'. Refute it at one input. -/
def matchCopiesWrong : ChangeSpec := { name := "matchCopies", fn := fun _ => fun
  | [d1, d2, d3, d4] => { results := [.lit (.bool false)], args := [d1, d2, d3, d4] }
  | _ => none }
def MatchCopiesWrongFalsely : Prop := matchCopiesRow.holds Tryd.pinned (OpenSpec.ofChange matchCopiesWrong)

/-- 'dragomanlaw11.MatchNames': WHATEVER THE INPUT: true; the input reads as it did. -/
def matchNamesSpec : ChangeSpec := { name := "matchNames", fn := fun _ => fun
  | [] => { results := [.lit (.bool true)], args := [] }
  | _ => none }
def matchNamesRow : OpenClaim := { program := "ytfhggnbnbopkkaadoor", sum := "77a8b005f0e3963606dca9bfb50e6f269ecbd6a52947046e77e96397a1f0ae1b", func := "dragoman/dragomanlaw11.MatchNames", spec := "matchNames", unfollowed := true, recurses := true, named := ["math/bits.deBruijn64tab"], apart := false, laid := [("math/bits.deBruijn64tab", laid_math_bits_deBruijn64tab)] }
def MatchNamesSaid : Prop := matchNamesRow.holds Tryd.pinned (OpenSpec.ofChange matchNamesSpec)

/-- ITS FALSE NEIGHBOUR: 'it returns false'. Refute it at one input. -/
def matchNamesWrong : ChangeSpec := { name := "matchNames", fn := fun _ => fun
  | [] => { results := [.lit (.bool false)], args := [] }
  | _ => none }
def MatchNamesWrongFalsely : Prop := matchNamesRow.holds Tryd.pinned (OpenSpec.ofChange matchNamesWrong)

/- THE SECOND FORM. 'bulk': how many values and letters a reading holds, each counted each time it is reached (what is shared counts as often as it is met; a slice's spare places count too). A statement '..UptoSaid' is the law's where the arguments, and the package variables that the reading takes, are together of bulk at most 1048576: NARROWER than '..Said'. Prove '..Said' where nothing that the law and all that it calls make is longer than what came in: it says more and counts as full. Else prove '..UptoSaid'. A law counts once. -/
mutual
def uptoBulk {H : Type} : DataW H → Nat
  | .lit (.string bytes) => bytes.length + 1
  | .lit _ => 1
  | .nil => 1
  | .ptr d => uptoBulk d + 1
  | .slice elems spare => uptoBulkAll elems + uptoBulkAll spare + 1
  | .agg parts => uptoBulkAll parts + 1
  | .iface _ d => uptoBulk d + 1
  | .map entries => uptoBulkEntries entries + 1
  | .held _ => 1
def uptoBulkAll {H : Type} : List (DataW H) → Nat
  | [] => 0
  | d :: r => uptoBulk d + uptoBulkAll r
def uptoBulkEntries {H : Type} : List (Lit × DataW H) → Nat
  | [] => 0
  | x :: r => uptoBulkEntry x + uptoBulkEntries r
def uptoBulkEntry {H : Type} : Lit × DataW H → Nat
  | (.string bytes, d) => bytes.length + uptoBulk d + 1
  | (_, d) => uptoBulk d + 1
 end
def uptoSmall : (H : Type) → List (DataW H) → Bool := fun _ ds => decide (uptoBulkAll ds ≤ 1048576)
def OpenSpec.upto (s : _root_.Go.ChangeSpec) : _root_.Go.OpenSpec := { _root_.Go.OpenSpec.ofChange s with cond := some uptoSmall }

/-- 'dragomanlaw11.MatchFirst', WHERE WHAT IT READS IS OF BULK AT MOST 1048576: true; the input reads as it did. -/
def matchFirstUptoRow : OpenClaim := { program := "ytfhggnbnbopkkaadoor", sum := "77a8b005f0e3963606dca9bfb50e6f269ecbd6a52947046e77e96397a1f0ae1b", func := "dragoman/dragomanlaw11.MatchFirst", spec := "matchFirst", unfollowed := true, recurses := true, named := ["math/bits.deBruijn64tab"], apart := false, laid := [("math/bits.deBruijn64tab", laid_math_bits_deBruijn64tab)], narrowed := true }
def MatchFirstUptoSaid : Prop := matchFirstUptoRow.holds Tryd.pinned (OpenSpec.upto matchFirstSpec)

/-- 'dragomanlaw11.MatchLiterals', WHERE WHAT IT READS IS OF BULK AT MOST 1048576: true; the input reads as it did. -/
def matchLiteralsUptoRow : OpenClaim := { program := "ytfhggnbnbopkkaadoor", sum := "77a8b005f0e3963606dca9bfb50e6f269ecbd6a52947046e77e96397a1f0ae1b", func := "dragoman/dragomanlaw11.MatchLiterals", spec := "matchLiterals", unfollowed := true, recurses := true, named := ["math/bits.deBruijn64tab"], apart := false, laid := [("math/bits.deBruijn64tab", laid_math_bits_deBruijn64tab)], narrowed := true }
def MatchLiteralsUptoSaid : Prop := matchLiteralsUptoRow.holds Tryd.pinned (OpenSpec.upto matchLiteralsSpec)

/-- 'dragomanlaw11.MatchKeeps', WHERE WHAT IT READS IS OF BULK AT MOST 1048576: true; the input reads as it did. -/
def matchKeepsUptoRow : OpenClaim := { program := "ytfhggnbnbopkkaadoor", sum := "77a8b005f0e3963606dca9bfb50e6f269ecbd6a52947046e77e96397a1f0ae1b", func := "dragoman/dragomanlaw11.MatchKeeps", spec := "matchKeeps", unfollowed := true, recurses := true, named := ["math/bits.deBruijn64tab"], apart := false, laid := [("math/bits.deBruijn64tab", laid_math_bits_deBruijn64tab)], narrowed := true }
def MatchKeepsUptoSaid : Prop := matchKeepsUptoRow.holds Tryd.pinned (OpenSpec.upto matchKeepsSpec)

/-- 'dragomanlaw11.MatchFeeds', WHERE WHAT IT READS IS OF BULK AT MOST 1048576: true; the input reads as it did. -/
def matchFeedsUptoRow : OpenClaim := { program := "ytfhggnbnbopkkaadoor", sum := "77a8b005f0e3963606dca9bfb50e6f269ecbd6a52947046e77e96397a1f0ae1b", func := "dragoman/dragomanlaw11.MatchFeeds", spec := "matchFeeds", unfollowed := true, recurses := true, named := ["math/bits.deBruijn64tab"], apart := false, laid := [("math/bits.deBruijn64tab", laid_math_bits_deBruijn64tab)], narrowed := true }
def MatchFeedsUptoSaid : Prop := matchFeedsUptoRow.holds Tryd.pinned (OpenSpec.upto matchFeedsSpec)

/-- 'dragomanlaw11.MatchPieces', WHERE WHAT IT READS IS OF BULK AT MOST 1048576: true; the input reads as it did. -/
def matchPiecesUptoRow : OpenClaim := { program := "ytfhggnbnbopkkaadoor", sum := "77a8b005f0e3963606dca9bfb50e6f269ecbd6a52947046e77e96397a1f0ae1b", func := "dragoman/dragomanlaw11.MatchPieces", spec := "matchPieces", unfollowed := true, recurses := true, named := ["math/bits.deBruijn64tab"], apart := false, laid := [("math/bits.deBruijn64tab", laid_math_bits_deBruijn64tab)], narrowed := true }
def MatchPiecesUptoSaid : Prop := matchPiecesUptoRow.holds Tryd.pinned (OpenSpec.upto matchPiecesSpec)

/-- 'dragomanlaw11.MatchWindow', WHERE WHAT IT READS IS OF BULK AT MOST 1048576: true; the input reads as it did. -/
def matchWindowUptoRow : OpenClaim := { program := "ytfhggnbnbopkkaadoor", sum := "77a8b005f0e3963606dca9bfb50e6f269ecbd6a52947046e77e96397a1f0ae1b", func := "dragoman/dragomanlaw11.MatchWindow", spec := "matchWindow", unfollowed := true, recurses := true, named := ["math/bits.deBruijn64tab"], apart := false, laid := [("math/bits.deBruijn64tab", laid_math_bits_deBruijn64tab)], narrowed := true }
def MatchWindowUptoSaid : Prop := matchWindowUptoRow.holds Tryd.pinned (OpenSpec.upto matchWindowSpec)

/-- 'dragomanlaw11.MatchEarly', WHERE WHAT IT READS IS OF BULK AT MOST 1048576: true; the input reads as it did. -/
def matchEarlyUptoRow : OpenClaim := { program := "ytfhggnbnbopkkaadoor", sum := "77a8b005f0e3963606dca9bfb50e6f269ecbd6a52947046e77e96397a1f0ae1b", func := "dragoman/dragomanlaw11.MatchEarly", spec := "matchEarly", unfollowed := true, recurses := true, named := ["math/bits.deBruijn64tab"], apart := false, laid := [("math/bits.deBruijn64tab", laid_math_bits_deBruijn64tab)], narrowed := true }
def MatchEarlyUptoSaid : Prop := matchEarlyUptoRow.holds Tryd.pinned (OpenSpec.upto matchEarlySpec)

/-- 'dragomanlaw11.MatchCopies', WHERE WHAT IT READS IS OF BULK AT MOST 1048576: true; the input reads as it did. -/
def matchCopiesUptoRow : OpenClaim := { program := "ytfhggnbnbopkkaadoor", sum := "77a8b005f0e3963606dca9bfb50e6f269ecbd6a52947046e77e96397a1f0ae1b", func := "dragoman/dragomanlaw11.MatchCopies", spec := "matchCopies", unfollowed := true, recurses := true, named := ["math/bits.deBruijn64tab"], apart := false, laid := [("math/bits.deBruijn64tab", laid_math_bits_deBruijn64tab)], narrowed := true }
def MatchCopiesUptoSaid : Prop := matchCopiesUptoRow.holds Tryd.pinned (OpenSpec.upto matchCopiesSpec)

/-- 'dragomanlaw11.MatchNames', WHERE WHAT IT READS IS OF BULK AT MOST 1048576: true; the input reads as it did. -/
def matchNamesUptoRow : OpenClaim := { program := "ytfhggnbnbopkkaadoor", sum := "77a8b005f0e3963606dca9bfb50e6f269ecbd6a52947046e77e96397a1f0ae1b", func := "dragoman/dragomanlaw11.MatchNames", spec := "matchNames", unfollowed := true, recurses := true, named := ["math/bits.deBruijn64tab"], apart := false, laid := [("math/bits.deBruijn64tab", laid_math_bits_deBruijn64tab)], narrowed := true }
def MatchNamesUptoSaid : Prop := matchNamesUptoRow.holds Tryd.pinned (OpenSpec.upto matchNamesSpec)

end Rows
end Go.Proofs.YtfhggnbnbopkkaaDoor
