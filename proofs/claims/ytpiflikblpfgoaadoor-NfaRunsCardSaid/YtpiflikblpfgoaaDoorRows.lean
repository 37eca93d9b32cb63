/-
  NARROWER THAN 'FOR EVERY INPUT', by the rows' own cells (each row's printed sentence says how): NfaMatches: laid · NfaRuns: laid · NfaDies: laid · NfaJoins: laid · NfaStars: laid · NfaLiterals: laid · NfaNames: laid · NfaCopies: laid.
  DERIVED. THE GIVEN ROWS OF THIS SEAT. 8 by the template 'for every input the law returns true; each argument reads behind the call as it read before'; 0 by the template 'total and deterministic' (their statements: YtpiflikblpfgoaaDoorTotals.lean).
  GIVEN WITH THE SEED: the statements are not yours to turn. If you find one false, say at which input.
  Laid BY PROGRAM, IN A SANDBOX (cutbox-rows.mjs): the forced cells as the released guide's own fill.sh prints them over the translation 9770d1e35b71b4d4… (all of the seat's roots in one cut). By AI agents, Wed Nov 11 2026. No macro, syntax, notation, axiom, sorry.
-/
import Derived.Test.YtpiflikblpfgoaaDoorChecked
import GoSem.Claim
import GoSem.ClaimJoined
import GoSem.ClaimMapViews
import Derived.JoinedTies
import Derived.KernelRfl
namespace Go.Proofs.YtpiflikblpfgoaaDoor
/- THE CELL 'sum', in the pinned program and in every row, IS THE sha256 OF THE DUMP (.gsa) THAT YtpiflikblpfgoaaDoorProg.lean LOADS. Nothing in Lean hashes anything: it is a label: what it is worth is what the hold of that sum in a sandbox is worth. -/
noncomputable def Tryd.pinned : Pinned := { name := "ytpiflikblpfgoaadoor", sum := "9770d1e35b71b4d44d39d0e14e3b540560b7be00d7d769647121b36530324534", checked := Tryd.checked }
namespace Rows
def none {H : Type} : Left H := { results := [], args := [] }

/- WHAT THE LISTED PACKAGE-LEVEL VARIABLES READ AS WHEN THE CALL BEGINS. Each datum BY PROGRAM (the guide's laid-datum.mjs) off the statement by which the dump's own 'gosem.cut.vars' lays the variable. In a bare row this is a premise. The card (YtpiflikblpfgoaaDoorCards.lean) ties it to the program's text. -/
def laid_math_bits_deBruijn64tab {H : Type} : DataW H := .agg [.lit (.int .u8 0), .lit (.int .u8 1), .lit (.int .u8 56), .lit (.int .u8 2), .lit (.int .u8 57), .lit (.int .u8 49), .lit (.int .u8 28), .lit (.int .u8 3), .lit (.int .u8 61), .lit (.int .u8 58), .lit (.int .u8 42), .lit (.int .u8 50), .lit (.int .u8 38), .lit (.int .u8 29), .lit (.int .u8 17), .lit (.int .u8 4), .lit (.int .u8 62), .lit (.int .u8 47), .lit (.int .u8 59), .lit (.int .u8 36), .lit (.int .u8 45), .lit (.int .u8 43), .lit (.int .u8 51), .lit (.int .u8 22), .lit (.int .u8 53), .lit (.int .u8 39), .lit (.int .u8 33), .lit (.int .u8 30), .lit (.int .u8 24), .lit (.int .u8 18), .lit (.int .u8 12), .lit (.int .u8 5), .lit (.int .u8 63), .lit (.int .u8 55), .lit (.int .u8 48), .lit (.int .u8 27), .lit (.int .u8 60), .lit (.int .u8 41), .lit (.int .u8 37), .lit (.int .u8 16), .lit (.int .u8 46), .lit (.int .u8 35), .lit (.int .u8 44), .lit (.int .u8 21), .lit (.int .u8 52), .lit (.int .u8 32), .lit (.int .u8 23), .lit (.int .u8 11), .lit (.int .u8 54), .lit (.int .u8 26), .lit (.int .u8 40), .lit (.int .u8 15), .lit (.int .u8 34), .lit (.int .u8 20), .lit (.int .u8 31), .lit (.int .u8 10), .lit (.int .u8 25), .lit (.int .u8 14), .lit (.int .u8 19), .lit (.int .u8 9), .lit (.int .u8 13), .lit (.int .u8 8), .lit (.int .u8 7), .lit (.int .u8 6)]

/-- 'dragomanlaw10.NfaMatches': WHATEVER THE INPUT: true; the input reads as it did. -/
def nfaMatchesSpec : ChangeSpec := { name := "nfaMatches", fn := fun _ => fun
  | [d1, d2] => { results := [.lit (.bool true)], args := [d1, d2] }
  | _ => none }
def nfaMatchesRow : OpenClaim := { program := "ytpiflikblpfgoaadoor", sum := "9770d1e35b71b4d44d39d0e14e3b540560b7be00d7d769647121b36530324534", func := "dragoman/dragomanlaw10.NfaMatches", spec := "nfaMatches", unfollowed := true, recurses := true, named := ["math/bits.deBruijn64tab"], apart := false, laid := [("math/bits.deBruijn64tab", laid_math_bits_deBruijn64tab)] }
def NfaMatchesSaid : Prop := nfaMatchesRow.holds Tryd.pinned (OpenSpec.ofChange nfaMatchesSpec)

/-- ITS FALSE NEIGHBOUR: 'it returns false'. Refute it at one input. -/
def nfaMatchesWrong : ChangeSpec := { name := "nfaMatches", fn := fun _ => fun
  | [d1, d2] => { results := [.lit (.bool false)], args := [d1, d2] }
  | _ => none }
def NfaMatchesWrongFalsely : Prop := nfaMatchesRow.holds Tryd.pinned (OpenSpec.ofChange nfaMatchesWrong)

/-- 'dragomanlaw10.NfaRuns': WHATEVER THE INPUT: true; the input reads as it did. -/
def nfaRunsSpec : ChangeSpec := { name := "nfaRuns", fn := fun _ => fun
  | [d1, d2] => { results := [.lit (.bool true)], args := [d1, d2] }
  | _ => none }
def nfaRunsRow : OpenClaim := { program := "ytpiflikblpfgoaadoor", sum := "9770d1e35b71b4d44d39d0e14e3b540560b7be00d7d769647121b36530324534", func := "dragoman/dragomanlaw10.NfaRuns", spec := "nfaRuns", unfollowed := true, recurses := true, named := ["math/bits.deBruijn64tab"], apart := false, laid := [("math/bits.deBruijn64tab", laid_math_bits_deBruijn64tab)] }
def NfaRunsSaid : Prop := nfaRunsRow.holds Tryd.pinned (OpenSpec.ofChange nfaRunsSpec)

/-- ITS FALSE NEIGHBOUR: 'it returns false'. Refute it at one input. -/
def nfaRunsWrong : ChangeSpec := { name := "nfaRuns", fn := fun _ => fun
  | [d1, d2] => { results := [.lit (.bool false)], args := [d1, d2] }
  | _ => none }
def NfaRunsWrongFalsely : Prop := nfaRunsRow.holds Tryd.pinned (OpenSpec.ofChange nfaRunsWrong)

/-- 'dragomanlaw10.NfaDies': WHATEVER THE INPUT: true; the input reads as it did. -/
def nfaDiesSpec : ChangeSpec := { name := "nfaDies", fn := fun _ => fun
  | [d1, d2, d3] => { results := [.lit (.bool true)], args := [d1, d2, d3] }
  | _ => none }
def nfaDiesRow : OpenClaim := { program := "ytpiflikblpfgoaadoor", sum := "9770d1e35b71b4d44d39d0e14e3b540560b7be00d7d769647121b36530324534", func := "dragoman/dragomanlaw10.NfaDies", spec := "nfaDies", unfollowed := true, recurses := true, named := ["math/bits.deBruijn64tab"], apart := false, laid := [("math/bits.deBruijn64tab", laid_math_bits_deBruijn64tab)] }
def NfaDiesSaid : Prop := nfaDiesRow.holds Tryd.pinned (OpenSpec.ofChange nfaDiesSpec)

/-- ITS FALSE NEIGHBOUR: 'it returns false'. Refute it at one input. -/
def nfaDiesWrong : ChangeSpec := { name := "nfaDies", fn := fun _ => fun
  | [d1, d2, d3] => { results := [.lit (.bool false)], args := [d1, d2, d3] }
  | _ => none }
def NfaDiesWrongFalsely : Prop := nfaDiesRow.holds Tryd.pinned (OpenSpec.ofChange nfaDiesWrong)

/-- 'dragomanlaw10.NfaJoins': WHATEVER THE INPUT: true; the input reads as it did. -/
def nfaJoinsSpec : ChangeSpec := { name := "nfaJoins", fn := fun _ => fun
  | [d1, d2, d3] => { results := [.lit (.bool true)], args := [d1, d2, d3] }
  | _ => none }
def nfaJoinsRow : OpenClaim := { program := "ytpiflikblpfgoaadoor", sum := "9770d1e35b71b4d44d39d0e14e3b540560b7be00d7d769647121b36530324534", func := "dragoman/dragomanlaw10.NfaJoins", spec := "nfaJoins", unfollowed := true, recurses := true, named := ["math/bits.deBruijn64tab"], apart := false, laid := [("math/bits.deBruijn64tab", laid_math_bits_deBruijn64tab)] }
def NfaJoinsSaid : Prop := nfaJoinsRow.holds Tryd.pinned (OpenSpec.ofChange nfaJoinsSpec)

/-- ITS FALSE NEIGHBOUR: 'it returns false'. Refute it at one input. -/
def nfaJoinsWrong : ChangeSpec := { name := "nfaJoins", fn := fun _ => fun
  | [d1, d2, d3] => { results := [.lit (.bool false)], args := [d1, d2, d3] }
  | _ => none }
def NfaJoinsWrongFalsely : Prop := nfaJoinsRow.holds Tryd.pinned (OpenSpec.ofChange nfaJoinsWrong)

/-- 'dragomanlaw10.NfaStars': WHATEVER THE INPUT: true; the input reads as it did. -/
def nfaStarsSpec : ChangeSpec := { name := "nfaStars", fn := fun _ => fun
  | [d1, d2] => { results := [.lit (.bool true)], args := [d1, d2] }
  | _ => none }
def nfaStarsRow : OpenClaim := { program := "ytpiflikblpfgoaadoor", sum := "9770d1e35b71b4d44d39d0e14e3b540560b7be00d7d769647121b36530324534", func := "dragoman/dragomanlaw10.NfaStars", spec := "nfaStars", unfollowed := true, recurses := true, named := ["math/bits.deBruijn64tab"], apart := false, laid := [("math/bits.deBruijn64tab", laid_math_bits_deBruijn64tab)] }
def NfaStarsSaid : Prop := nfaStarsRow.holds Tryd.pinned (OpenSpec.ofChange nfaStarsSpec)

/-- ITS FALSE NEIGHBOUR: 'it returns false'. Refute it at one input. -/
def nfaStarsWrong : ChangeSpec := { name := "nfaStars", fn := fun _ => fun
  | [d1, d2] => { results := [.lit (.bool false)], args := [d1, d2] }
  | _ => none }
def NfaStarsWrongFalsely : Prop := nfaStarsRow.holds Tryd.pinned (OpenSpec.ofChange nfaStarsWrong)

/-- 'dragomanlaw10.NfaLiterals': WHATEVER THE INPUT: true; the input reads as it did. -/
def nfaLiteralsSpec : ChangeSpec := { name := "nfaLiterals", fn := fun _ => fun
  | [d1, d2] => { results := [.lit (.bool true)], args := [d1, d2] }
  | _ => none }
def nfaLiteralsRow : OpenClaim := { program := "ytpiflikblpfgoaadoor", sum := "9770d1e35b71b4d44d39d0e14e3b540560b7be00d7d769647121b36530324534", func := "dragoman/dragomanlaw10.NfaLiterals", spec := "nfaLiterals", unfollowed := true, recurses := true, named := ["math/bits.deBruijn64tab"], apart := false, laid := [("math/bits.deBruijn64tab", laid_math_bits_deBruijn64tab)] }
def NfaLiteralsSaid : Prop := nfaLiteralsRow.holds Tryd.pinned (OpenSpec.ofChange nfaLiteralsSpec)

/-- ITS FALSE NEIGHBOUR: 'it returns false'. Refute it at one input. -/
def nfaLiteralsWrong : ChangeSpec := { name := "nfaLiterals", fn := fun _ => fun
  | [d1, d2] => { results := [.lit (.bool false)], args := [d1, d2] }
  | _ => none }
def NfaLiteralsWrongFalsely : Prop := nfaLiteralsRow.holds Tryd.pinned (OpenSpec.ofChange nfaLiteralsWrong)

/-- 'dragomanlaw10.NfaNames': WHATEVER THE INPUT: true; the input reads as it did. -/
def nfaNamesSpec : ChangeSpec := { name := "nfaNames", fn := fun _ => fun
  | [] => { results := [.lit (.bool true)], args := [] }
  | _ => none }
def nfaNamesRow : OpenClaim := { program := "ytpiflikblpfgoaadoor", sum := "9770d1e35b71b4d44d39d0e14e3b540560b7be00d7d769647121b36530324534", func := "dragoman/dragomanlaw10.NfaNames", spec := "nfaNames", unfollowed := true, recurses := true, named := ["math/bits.deBruijn64tab"], apart := false, laid := [("math/bits.deBruijn64tab", laid_math_bits_deBruijn64tab)] }
def NfaNamesSaid : Prop := nfaNamesRow.holds Tryd.pinned (OpenSpec.ofChange nfaNamesSpec)

/-- ITS FALSE NEIGHBOUR: 'it returns false'. Refute it at one input. -/
def nfaNamesWrong : ChangeSpec := { name := "nfaNames", fn := fun _ => fun
  | [] => { results := [.lit (.bool false)], args := [] }
  | _ => none }
def NfaNamesWrongFalsely : Prop := nfaNamesRow.holds Tryd.pinned (OpenSpec.ofChange nfaNamesWrong)

/-- 'dragomanlaw10.NfaCopies': WHATEVER THE INPUT: true; the input reads as it did. -/
def nfaCopiesSpec : ChangeSpec := { name := "nfaCopies", fn := fun _ => fun
  | [d1, d2, d3, d4] => { results := [.lit (.bool true)], args := [d1, d2, d3, d4] }
  | _ => none }
def nfaCopiesRow : OpenClaim := { program := "ytpiflikblpfgoaadoor", sum := "9770d1e35b71b4d44d39d0e14e3b540560b7be00d7d769647121b36530324534", func := "dragoman/dragomanlaw10.NfaCopies", spec := "nfaCopies", unfollowed := true, recurses := true, named := ["math/bits.deBruijn64tab"], apart := false, laid := [("math/bits.deBruijn64tab", laid_math_bits_deBruijn64tab)] }
def NfaCopiesSaid : Prop := nfaCopiesRow.holds Tryd.pinned (OpenSpec.ofChange nfaCopiesSpec)

/-- ITS FALSE NEIGHBOUR: 'it returns false'. Refute it at one input. -/
def nfaCopiesWrong : ChangeSpec := { name := "nfaCopies", fn := fun _ => fun
  | [d1, d2, d3, d4] => { results := [.lit (.bool false)], args := [d1, d2, d3, d4] }
  | _ => none }
def NfaCopiesWrongFalsely : Prop := nfaCopiesRow.holds Tryd.pinned (OpenSpec.ofChange nfaCopiesWrong)

/- THE SECOND FORM. 'bulk': how many values and letters a reading holds, each counted each time it is reached (what is shared counts as often as it is met; a slice's spare places count too). A statement '..UptoSaid' is the law's where the arguments, and the package variables that the reading takes, are together of bulk at most 1048576: NARROWER than '..Said'. Prove '..Said' where nothing that the law and all that it calls make is longer than what came in: it says more and counts as full. Else prove '..UptoSaid'. A law counts once. -/
mutual
def uptoBulk {H : Type} : DataW H → Nat
  | .lit (.string bytes) => bytes.length + 1
  | .lit _ => 1
  | .nil => 1
  | .ptr d => uptoBulk d + 1
  | .slice elems spare => uptoBulkAll elems + uptoBulkAll spare + 1
  | .agg parts => uptoBulkAll parts + 1
  | .iface _ d => uptoBulk d + 1
  | .map entries => uptoBulkEntries entries + 1
  | .held _ => 1
def uptoBulkAll {H : Type} : List (DataW H) → Nat
  | [] => 0
  | d :: r => uptoBulk d + uptoBulkAll r
def uptoBulkEntries {H : Type} : List (Lit × DataW H) → Nat
  | [] => 0
  | x :: r => uptoBulkEntry x + uptoBulkEntries r
def uptoBulkEntry {H : Type} : Lit × DataW H → Nat
  | (.string bytes, d) => bytes.length + uptoBulk d + 1
  | (_, d) => uptoBulk d + 1
 end
def uptoSmall : (H : Type) → List (DataW H) → Bool := fun _ ds => decide (uptoBulkAll ds ≤ 1048576)
def OpenSpec.upto (s : _root_.Go.ChangeSpec) : _root_.Go.OpenSpec := { _root_.Go.OpenSpec.ofChange s with cond := some uptoSmall }

/-- 'dragomanlaw10.NfaMatches', WHERE WHAT IT READS IS OF BULK AT MOST 1048576: true; the input reads as it did. -/
def nfaMatchesUptoRow : OpenClaim := { program := "ytpiflikblpfgoaadoor", sum := "9770d1e35b71b4d44d39d0e14e3b540560b7be00d7d769647121b36530324534", func := "dragoman/dragomanlaw10.NfaMatches", spec := "nfaMatches", unfollowed := true, recurses := true, named := ["math/bits.deBruijn64tab"], apart := false, laid := [("math/bits.deBruijn64tab", laid_math_bits_deBruijn64tab)], narrowed := true }
def NfaMatchesUptoSaid : Prop := nfaMatchesUptoRow.holds Tryd.pinned (OpenSpec.upto nfaMatchesSpec)

/-- 'dragomanlaw10.NfaRuns', WHERE WHAT IT READS IS OF BULK AT MOST 1048576: true; the input reads as it did. -/
def nfaRunsUptoRow : OpenClaim := { program := "ytpiflikblpfgoaadoor", sum := "9770d1e35b71b4d44d39d0e14e3b540560b7be00d7d769647121b36530324534", func := "dragoman/dragomanlaw10.NfaRuns", spec := "nfaRuns", unfollowed := true, recurses := true, named := ["math/bits.deBruijn64tab"], apart := false, laid := [("math/bits.deBruijn64tab", laid_math_bits_deBruijn64tab)], narrowed := true }
def NfaRunsUptoSaid : Prop := nfaRunsUptoRow.holds Tryd.pinned (OpenSpec.upto nfaRunsSpec)

/-- 'dragomanlaw10.NfaDies', WHERE WHAT IT READS IS OF BULK AT MOST 1048576: true; the input reads as it did. -/
def nfaDiesUptoRow : OpenClaim := { program := "ytpiflikblpfgoaadoor", sum := "9770d1e35b71b4d44d39d0e14e3b540560b7be00d7d769647121b36530324534", func := "dragoman/dragomanlaw10.NfaDies", spec := "nfaDies", unfollowed := true, recurses := true, named := ["math/bits.deBruijn64tab"], apart := false, laid := [("math/bits.deBruijn64tab", laid_math_bits_deBruijn64tab)], narrowed := true }
def NfaDiesUptoSaid : Prop := nfaDiesUptoRow.holds Tryd.pinned (OpenSpec.upto nfaDiesSpec)

/-- 'dragomanlaw10.NfaJoins', WHERE WHAT IT READS IS OF BULK AT MOST 1048576: true; the input reads as it did. -/
def nfaJoinsUptoRow : OpenClaim := { program := "ytpiflikblpfgoaadoor", sum := "9770d1e35b71b4d44d39d0e14e3b540560b7be00d7d769647121b36530324534", func := "dragoman/dragomanlaw10.NfaJoins", spec := "nfaJoins", unfollowed := true, recurses := true, named := ["math/bits.deBruijn64tab"], apart := false, laid := [("math/bits.deBruijn64tab", laid_math_bits_deBruijn64tab)], narrowed := true }
def NfaJoinsUptoSaid : Prop := nfaJoinsUptoRow.holds Tryd.pinned (OpenSpec.upto nfaJoinsSpec)

/-- 'dragomanlaw10.NfaStars', WHERE WHAT IT READS IS OF BULK AT MOST 1048576: true; the input reads as it did. -/
def nfaStarsUptoRow : OpenClaim := { program := "ytpiflikblpfgoaadoor", sum := "9770d1e35b71b4d44d39d0e14e3b540560b7be00d7d769647121b36530324534", func := "dragoman/dragomanlaw10.NfaStars", spec := "nfaStars", unfollowed := true, recurses := true, named := ["math/bits.deBruijn64tab"], apart := false, laid := [("math/bits.deBruijn64tab", laid_math_bits_deBruijn64tab)], narrowed := true }
def NfaStarsUptoSaid : Prop := nfaStarsUptoRow.holds Tryd.pinned (OpenSpec.upto nfaStarsSpec)

/-- 'dragomanlaw10.NfaLiterals', WHERE WHAT IT READS IS OF BULK AT MOST 1048576: true; the input reads as it did. -/
def nfaLiteralsUptoRow : OpenClaim := { program := "ytpiflikblpfgoaadoor", sum := "9770d1e35b71b4d44d39d0e14e3b540560b7be00d7d769647121b36530324534", func := "dragoman/dragomanlaw10.NfaLiterals", spec := "nfaLiterals", unfollowed := true, recurses := true, named := ["math/bits.deBruijn64tab"], apart := false, laid := [("math/bits.deBruijn64tab", laid_math_bits_deBruijn64tab)], narrowed := true }
def NfaLiteralsUptoSaid : Prop := nfaLiteralsUptoRow.holds Tryd.pinned (OpenSpec.upto nfaLiteralsSpec)

/-- 'dragomanlaw10.NfaNames', WHERE WHAT IT READS IS OF BULK AT MOST 1048576: true; the input reads as it did. -/
def nfaNamesUptoRow : OpenClaim := { program := "ytpiflikblpfgoaadoor", sum := "9770d1e35b71b4d44d39d0e14e3b540560b7be00d7d769647121b36530324534", func := "dragoman/dragomanlaw10.NfaNames", spec := "nfaNames", unfollowed := true, recurses := true, named := ["math/bits.deBruijn64tab"], apart := false, laid := [("math/bits.deBruijn64tab", laid_math_bits_deBruijn64tab)], narrowed := true }
def NfaNamesUptoSaid : Prop := nfaNamesUptoRow.holds Tryd.pinned (OpenSpec.upto nfaNamesSpec)

/-- 'dragomanlaw10.NfaCopies', WHERE WHAT IT READS IS OF BULK AT MOST 1048576: true; the input reads as it did. -/
def nfaCopiesUptoRow : OpenClaim := { program := "ytpiflikblpfgoaadoor", sum := "9770d1e35b71b4d44d39d0e14e3b540560b7be00d7d769647121b36530324534", func := "dragoman/dragomanlaw10.NfaCopies", spec := "nfaCopies", unfollowed := true, recurses := true, named := ["math/bits.deBruijn64tab"], apart := false, laid := [("math/bits.deBruijn64tab", laid_math_bits_deBruijn64tab)], narrowed := true }
def NfaCopiesUptoSaid : Prop := nfaCopiesUptoRow.holds Tryd.pinned (OpenSpec.upto nfaCopiesSpec)

end Rows
end Go.Proofs.YtpiflikblpfgoaaDoor
