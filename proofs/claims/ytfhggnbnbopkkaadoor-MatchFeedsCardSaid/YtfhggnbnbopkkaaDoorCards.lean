/-
  DERIVED. GIVEN WITH THE SEED: THE CARDS: each row of YtfhggnbnbopkkaaDoorRows.lean that lists a variable, with what it lists TIED to the program's text (the seventh form; the later family's looks); each row that meets fmt, with fmt's text TOLD by the authors' own Lean function (tested against real Go, not proved from fmt's source: count such statements apart). THE CARD IS WHAT COUNTS. Prove the row's statement (the work); the ties are given (YtfhggnbnbopkkaaDoorTie.lean); close each card by the builder's one call (the guide's Derived/Test/ToyasCard.lean, 'card_holds'). Laid BY PROGRAM, IN A SANDBOX (cutbox-door.mjs). By AI agents, Wed Nov 11 2026. No macro, syntax, notation, axiom, sorry.
-/
import Derived.Test.YtfhggnbnbopkkaaDoorRows
import GoSem.ClaimSeven
namespace Go.Proofs.YtfhggnbnbopkkaaDoor
namespace Rows

/-- THE TIED CARD OF 'dragomanlaw11.MatchFirst'. -/
def matchFirstCard : Claim7 := { stood := { row := matchFirstRow, standIns := [], harness := (true, "b84407cb6b3f3f99cc40042b318d6ad33b78c4e2b0910b53004719c4157f66e7"), looks := true }, kinds := [], alts := [], laidByText := true, laidKinds := [.data], laidTests := true, laidLooks := .later }
def MatchFirstCardSaid : Prop := Claim7.holds Tryd.pinned (.plain (OpenSpec.ofChange matchFirstSpec)) matchFirstCard

/-- THE TIED CARD OF 'dragomanlaw11.MatchLiterals'. -/
def matchLiteralsCard : Claim7 := { stood := { row := matchLiteralsRow, standIns := [], harness := (true, "b84407cb6b3f3f99cc40042b318d6ad33b78c4e2b0910b53004719c4157f66e7"), looks := true }, kinds := [], alts := [], laidByText := true, laidKinds := [.data], laidTests := true, laidLooks := .later }
def MatchLiteralsCardSaid : Prop := Claim7.holds Tryd.pinned (.plain (OpenSpec.ofChange matchLiteralsSpec)) matchLiteralsCard

/-- THE TIED CARD OF 'dragomanlaw11.MatchKeeps'. -/
def matchKeepsCard : Claim7 := { stood := { row := matchKeepsRow, standIns := [], harness := (true, "b84407cb6b3f3f99cc40042b318d6ad33b78c4e2b0910b53004719c4157f66e7"), looks := true }, kinds := [], alts := [], laidByText := true, laidKinds := [.data], laidTests := true, laidLooks := .later }
def MatchKeepsCardSaid : Prop := Claim7.holds Tryd.pinned (.plain (OpenSpec.ofChange matchKeepsSpec)) matchKeepsCard

/-- THE TIED CARD OF 'dragomanlaw11.MatchFeeds'. -/
def matchFeedsCard : Claim7 := { stood := { row := matchFeedsRow, standIns := [], harness := (true, "b84407cb6b3f3f99cc40042b318d6ad33b78c4e2b0910b53004719c4157f66e7"), looks := true }, kinds := [], alts := [], laidByText := true, laidKinds := [.data], laidTests := true, laidLooks := .later }
def MatchFeedsCardSaid : Prop := Claim7.holds Tryd.pinned (.plain (OpenSpec.ofChange matchFeedsSpec)) matchFeedsCard

/-- THE TIED CARD OF 'dragomanlaw11.MatchPieces'. -/
def matchPiecesCard : Claim7 := { stood := { row := matchPiecesRow, standIns := [], harness := (true, "b84407cb6b3f3f99cc40042b318d6ad33b78c4e2b0910b53004719c4157f66e7"), looks := true }, kinds := [], alts := [], laidByText := true, laidKinds := [.data], laidTests := true, laidLooks := .later }
def MatchPiecesCardSaid : Prop := Claim7.holds Tryd.pinned (.plain (OpenSpec.ofChange matchPiecesSpec)) matchPiecesCard

/-- THE TIED CARD OF 'dragomanlaw11.MatchWindow'. -/
def matchWindowCard : Claim7 := { stood := { row := matchWindowRow, standIns := [], harness := (true, "b84407cb6b3f3f99cc40042b318d6ad33b78c4e2b0910b53004719c4157f66e7"), looks := true }, kinds := [], alts := [], laidByText := true, laidKinds := [.data], laidTests := true, laidLooks := .later }
def MatchWindowCardSaid : Prop := Claim7.holds Tryd.pinned (.plain (OpenSpec.ofChange matchWindowSpec)) matchWindowCard

/-- THE TIED CARD OF 'dragomanlaw11.MatchEarly'. -/
def matchEarlyCard : Claim7 := { stood := { row := matchEarlyRow, standIns := [], harness := (true, "b84407cb6b3f3f99cc40042b318d6ad33b78c4e2b0910b53004719c4157f66e7"), looks := true }, kinds := [], alts := [], laidByText := true, laidKinds := [.data], laidTests := true, laidLooks := .later }
def MatchEarlyCardSaid : Prop := Claim7.holds Tryd.pinned (.plain (OpenSpec.ofChange matchEarlySpec)) matchEarlyCard

/-- THE TIED CARD OF 'dragomanlaw11.MatchCopies'. -/
def matchCopiesCard : Claim7 := { stood := { row := matchCopiesRow, standIns := [], harness := (true, "b84407cb6b3f3f99cc40042b318d6ad33b78c4e2b0910b53004719c4157f66e7"), looks := true }, kinds := [], alts := [], laidByText := true, laidKinds := [.data], laidTests := true, laidLooks := .later }
def MatchCopiesCardSaid : Prop := Claim7.holds Tryd.pinned (.plain (OpenSpec.ofChange matchCopiesSpec)) matchCopiesCard

/-- THE TIED CARD OF 'dragomanlaw11.MatchNames'. -/
def matchNamesCard : Claim7 := { stood := { row := matchNamesRow, standIns := [], harness := (true, "b84407cb6b3f3f99cc40042b318d6ad33b78c4e2b0910b53004719c4157f66e7"), looks := true }, kinds := [], alts := [], laidByText := true, laidKinds := [.data], laidTests := true, laidLooks := .later }
def MatchNamesCardSaid : Prop := Claim7.holds Tryd.pinned (.plain (OpenSpec.ofChange matchNamesSpec)) matchNamesCard

/-- THE SECOND FORM's CARD OF 'dragomanlaw11.MatchFirst'. -/
def matchFirstUptoCard : Claim7 := { stood := { row := matchFirstUptoRow, standIns := [], harness := (true, "b84407cb6b3f3f99cc40042b318d6ad33b78c4e2b0910b53004719c4157f66e7"), looks := true }, kinds := [], alts := [], laidByText := true, laidKinds := [.data], laidTests := true, laidLooks := .later }
def MatchFirstUptoCardSaid : Prop := Claim7.holds Tryd.pinned (.plain (OpenSpec.upto matchFirstSpec)) matchFirstUptoCard

/-- THE SECOND FORM's CARD OF 'dragomanlaw11.MatchLiterals'. -/
def matchLiteralsUptoCard : Claim7 := { stood := { row := matchLiteralsUptoRow, standIns := [], harness := (true, "b84407cb6b3f3f99cc40042b318d6ad33b78c4e2b0910b53004719c4157f66e7"), looks := true }, kinds := [], alts := [], laidByText := true, laidKinds := [.data], laidTests := true, laidLooks := .later }
def MatchLiteralsUptoCardSaid : Prop := Claim7.holds Tryd.pinned (.plain (OpenSpec.upto matchLiteralsSpec)) matchLiteralsUptoCard

/-- THE SECOND FORM's CARD OF 'dragomanlaw11.MatchKeeps'. -/
def matchKeepsUptoCard : Claim7 := { stood := { row := matchKeepsUptoRow, standIns := [], harness := (true, "b84407cb6b3f3f99cc40042b318d6ad33b78c4e2b0910b53004719c4157f66e7"), looks := true }, kinds := [], alts := [], laidByText := true, laidKinds := [.data], laidTests := true, laidLooks := .later }
def MatchKeepsUptoCardSaid : Prop := Claim7.holds Tryd.pinned (.plain (OpenSpec.upto matchKeepsSpec)) matchKeepsUptoCard

/-- THE SECOND FORM's CARD OF 'dragomanlaw11.MatchFeeds'. -/
def matchFeedsUptoCard : Claim7 := { stood := { row := matchFeedsUptoRow, standIns := [], harness := (true, "b84407cb6b3f3f99cc40042b318d6ad33b78c4e2b0910b53004719c4157f66e7"), looks := true }, kinds := [], alts := [], laidByText := true, laidKinds := [.data], laidTests := true, laidLooks := .later }
def MatchFeedsUptoCardSaid : Prop := Claim7.holds Tryd.pinned (.plain (OpenSpec.upto matchFeedsSpec)) matchFeedsUptoCard

/-- THE SECOND FORM's CARD OF 'dragomanlaw11.MatchPieces'. -/
def matchPiecesUptoCard : Claim7 := { stood := { row := matchPiecesUptoRow, standIns := [], harness := (true, "b84407cb6b3f3f99cc40042b318d6ad33b78c4e2b0910b53004719c4157f66e7"), looks := true }, kinds := [], alts := [], laidByText := true, laidKinds := [.data], laidTests := true, laidLooks := .later }
def MatchPiecesUptoCardSaid : Prop := Claim7.holds Tryd.pinned (.plain (OpenSpec.upto matchPiecesSpec)) matchPiecesUptoCard

/-- THE SECOND FORM's CARD OF 'dragomanlaw11.MatchWindow'. -/
def matchWindowUptoCard : Claim7 := { stood := { row := matchWindowUptoRow, standIns := [], harness := (true, "b84407cb6b3f3f99cc40042b318d6ad33b78c4e2b0910b53004719c4157f66e7"), looks := true }, kinds := [], alts := [], laidByText := true, laidKinds := [.data], laidTests := true, laidLooks := .later }
def MatchWindowUptoCardSaid : Prop := Claim7.holds Tryd.pinned (.plain (OpenSpec.upto matchWindowSpec)) matchWindowUptoCard

/-- THE SECOND FORM's CARD OF 'dragomanlaw11.MatchEarly'. -/
def matchEarlyUptoCard : Claim7 := { stood := { row := matchEarlyUptoRow, standIns := [], harness := (true, "b84407cb6b3f3f99cc40042b318d6ad33b78c4e2b0910b53004719c4157f66e7"), looks := true }, kinds := [], alts := [], laidByText := true, laidKinds := [.data], laidTests := true, laidLooks := .later }
def MatchEarlyUptoCardSaid : Prop := Claim7.holds Tryd.pinned (.plain (OpenSpec.upto matchEarlySpec)) matchEarlyUptoCard

/-- THE SECOND FORM's CARD OF 'dragomanlaw11.MatchCopies'. -/
def matchCopiesUptoCard : Claim7 := { stood := { row := matchCopiesUptoRow, standIns := [], harness := (true, "b84407cb6b3f3f99cc40042b318d6ad33b78c4e2b0910b53004719c4157f66e7"), looks := true }, kinds := [], alts := [], laidByText := true, laidKinds := [.data], laidTests := true, laidLooks := .later }
def MatchCopiesUptoCardSaid : Prop := Claim7.holds Tryd.pinned (.plain (OpenSpec.upto matchCopiesSpec)) matchCopiesUptoCard

/-- THE SECOND FORM's CARD OF 'dragomanlaw11.MatchNames'. -/
def matchNamesUptoCard : Claim7 := { stood := { row := matchNamesUptoRow, standIns := [], harness := (true, "b84407cb6b3f3f99cc40042b318d6ad33b78c4e2b0910b53004719c4157f66e7"), looks := true }, kinds := [], alts := [], laidByText := true, laidKinds := [.data], laidTests := true, laidLooks := .later }
def MatchNamesUptoCardSaid : Prop := Claim7.holds Tryd.pinned (.plain (OpenSpec.upto matchNamesSpec)) matchNamesUptoCard
end Rows
end Go.Proofs.YtfhggnbnbopkkaaDoor
