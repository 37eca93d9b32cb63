/-
  DERIVED. GIVEN WITH THE SEED: THE CARDS: each row of YtpiflikblpfgoaaDoorRows.lean that lists a variable, with what it lists TIED to the program's text (the seventh form; the later family's looks); each row that meets fmt, with fmt's text TOLD by the authors' own Lean function (tested against real Go, not proved from fmt's source: count such statements apart). THE CARD IS WHAT COUNTS. Prove the row's statement (the work); the ties are given (YtpiflikblpfgoaaDoorTie.lean); close each card by the builder's one call (the guide's Derived/Test/ToyasCard.lean, 'card_holds'). Laid BY PROGRAM, IN A SANDBOX (cutbox-door.mjs). By AI agents, Wed Nov 11 2026. No macro, syntax, notation, axiom, sorry.
-/
import Derived.Test.YtpiflikblpfgoaaDoorRows
import GoSem.ClaimSeven
namespace Go.Proofs.YtpiflikblpfgoaaDoor
namespace Rows

/-- THE TIED CARD OF 'dragomanlaw10.NfaMatches'. -/
def nfaMatchesCard : Claim7 := { stood := { row := nfaMatchesRow, standIns := [], harness := (true, "b76020eeaddf6329b8985470c08b3a5b354c6fcdcaa0eadd50efc38e30f2ab09"), looks := true }, kinds := [], alts := [], laidByText := true, laidKinds := [.data], laidTests := true, laidLooks := .later }
def NfaMatchesCardSaid : Prop := Claim7.holds Tryd.pinned (.plain (OpenSpec.ofChange nfaMatchesSpec)) nfaMatchesCard

/-- THE TIED CARD OF 'dragomanlaw10.NfaRuns'. -/
def nfaRunsCard : Claim7 := { stood := { row := nfaRunsRow, standIns := [], harness := (true, "b76020eeaddf6329b8985470c08b3a5b354c6fcdcaa0eadd50efc38e30f2ab09"), looks := true }, kinds := [], alts := [], laidByText := true, laidKinds := [.data], laidTests := true, laidLooks := .later }
def NfaRunsCardSaid : Prop := Claim7.holds Tryd.pinned (.plain (OpenSpec.ofChange nfaRunsSpec)) nfaRunsCard

/-- THE TIED CARD OF 'dragomanlaw10.NfaDies'. -/
def nfaDiesCard : Claim7 := { stood := { row := nfaDiesRow, standIns := [], harness := (true, "b76020eeaddf6329b8985470c08b3a5b354c6fcdcaa0eadd50efc38e30f2ab09"), looks := true }, kinds := [], alts := [], laidByText := true, laidKinds := [.data], laidTests := true, laidLooks := .later }
def NfaDiesCardSaid : Prop := Claim7.holds Tryd.pinned (.plain (OpenSpec.ofChange nfaDiesSpec)) nfaDiesCard

/-- THE TIED CARD OF 'dragomanlaw10.NfaJoins'. -/
def nfaJoinsCard : Claim7 := { stood := { row := nfaJoinsRow, standIns := [], harness := (true, "b76020eeaddf6329b8985470c08b3a5b354c6fcdcaa0eadd50efc38e30f2ab09"), looks := true }, kinds := [], alts := [], laidByText := true, laidKinds := [.data], laidTests := true, laidLooks := .later }
def NfaJoinsCardSaid : Prop := Claim7.holds Tryd.pinned (.plain (OpenSpec.ofChange nfaJoinsSpec)) nfaJoinsCard

/-- THE TIED CARD OF 'dragomanlaw10.NfaStars'. -/
def nfaStarsCard : Claim7 := { stood := { row := nfaStarsRow, standIns := [], harness := (true, "b76020eeaddf6329b8985470c08b3a5b354c6fcdcaa0eadd50efc38e30f2ab09"), looks := true }, kinds := [], alts := [], laidByText := true, laidKinds := [.data], laidTests := true, laidLooks := .later }
def NfaStarsCardSaid : Prop := Claim7.holds Tryd.pinned (.plain (OpenSpec.ofChange nfaStarsSpec)) nfaStarsCard

/-- THE TIED CARD OF 'dragomanlaw10.NfaLiterals'. -/
def nfaLiteralsCard : Claim7 := { stood := { row := nfaLiteralsRow, standIns := [], harness := (true, "b76020eeaddf6329b8985470c08b3a5b354c6fcdcaa0eadd50efc38e30f2ab09"), looks := true }, kinds := [], alts := [], laidByText := true, laidKinds := [.data], laidTests := true, laidLooks := .later }
def NfaLiteralsCardSaid : Prop := Claim7.holds Tryd.pinned (.plain (OpenSpec.ofChange nfaLiteralsSpec)) nfaLiteralsCard

/-- THE TIED CARD OF 'dragomanlaw10.NfaNames'. -/
def nfaNamesCard : Claim7 := { stood := { row := nfaNamesRow, standIns := [], harness := (true, "b76020eeaddf6329b8985470c08b3a5b354c6fcdcaa0eadd50efc38e30f2ab09"), looks := true }, kinds := [], alts := [], laidByText := true, laidKinds := [.data], laidTests := true, laidLooks := .later }
def NfaNamesCardSaid : Prop := Claim7.holds Tryd.pinned (.plain (OpenSpec.ofChange nfaNamesSpec)) nfaNamesCard

/-- THE TIED CARD OF 'dragomanlaw10.NfaCopies'. -/
def nfaCopiesCard : Claim7 := { stood := { row := nfaCopiesRow, standIns := [], harness := (true, "b76020eeaddf6329b8985470c08b3a5b354c6fcdcaa0eadd50efc38e30f2ab09"), looks := true }, kinds := [], alts := [], laidByText := true, laidKinds := [.data], laidTests := true, laidLooks := .later }
def NfaCopiesCardSaid : Prop := Claim7.holds Tryd.pinned (.plain (OpenSpec.ofChange nfaCopiesSpec)) nfaCopiesCard

/-- THE SECOND FORM's CARD OF 'dragomanlaw10.NfaMatches'. -/
def nfaMatchesUptoCard : Claim7 := { stood := { row := nfaMatchesUptoRow, standIns := [], harness := (true, "b76020eeaddf6329b8985470c08b3a5b354c6fcdcaa0eadd50efc38e30f2ab09"), looks := true }, kinds := [], alts := [], laidByText := true, laidKinds := [.data], laidTests := true, laidLooks := .later }
def NfaMatchesUptoCardSaid : Prop := Claim7.holds Tryd.pinned (.plain (OpenSpec.upto nfaMatchesSpec)) nfaMatchesUptoCard

/-- THE SECOND FORM's CARD OF 'dragomanlaw10.NfaRuns'. -/
def nfaRunsUptoCard : Claim7 := { stood := { row := nfaRunsUptoRow, standIns := [], harness := (true, "b76020eeaddf6329b8985470c08b3a5b354c6fcdcaa0eadd50efc38e30f2ab09"), looks := true }, kinds := [], alts := [], laidByText := true, laidKinds := [.data], laidTests := true, laidLooks := .later }
def NfaRunsUptoCardSaid : Prop := Claim7.holds Tryd.pinned (.plain (OpenSpec.upto nfaRunsSpec)) nfaRunsUptoCard

/-- THE SECOND FORM's CARD OF 'dragomanlaw10.NfaDies'. -/
def nfaDiesUptoCard : Claim7 := { stood := { row := nfaDiesUptoRow, standIns := [], harness := (true, "b76020eeaddf6329b8985470c08b3a5b354c6fcdcaa0eadd50efc38e30f2ab09"), looks := true }, kinds := [], alts := [], laidByText := true, laidKinds := [.data], laidTests := true, laidLooks := .later }
def NfaDiesUptoCardSaid : Prop := Claim7.holds Tryd.pinned (.plain (OpenSpec.upto nfaDiesSpec)) nfaDiesUptoCard

/-- THE SECOND FORM's CARD OF 'dragomanlaw10.NfaJoins'. -/
def nfaJoinsUptoCard : Claim7 := { stood := { row := nfaJoinsUptoRow, standIns := [], harness := (true, "b76020eeaddf6329b8985470c08b3a5b354c6fcdcaa0eadd50efc38e30f2ab09"), looks := true }, kinds := [], alts := [], laidByText := true, laidKinds := [.data], laidTests := true, laidLooks := .later }
def NfaJoinsUptoCardSaid : Prop := Claim7.holds Tryd.pinned (.plain (OpenSpec.upto nfaJoinsSpec)) nfaJoinsUptoCard

/-- THE SECOND FORM's CARD OF 'dragomanlaw10.NfaStars'. -/
def nfaStarsUptoCard : Claim7 := { stood := { row := nfaStarsUptoRow, standIns := [], harness := (true, "b76020eeaddf6329b8985470c08b3a5b354c6fcdcaa0eadd50efc38e30f2ab09"), looks := true }, kinds := [], alts := [], laidByText := true, laidKinds := [.data], laidTests := true, laidLooks := .later }
def NfaStarsUptoCardSaid : Prop := Claim7.holds Tryd.pinned (.plain (OpenSpec.upto nfaStarsSpec)) nfaStarsUptoCard

/-- THE SECOND FORM's CARD OF 'dragomanlaw10.NfaLiterals'. -/
def nfaLiteralsUptoCard : Claim7 := { stood := { row := nfaLiteralsUptoRow, standIns := [], harness := (true, "b76020eeaddf6329b8985470c08b3a5b354c6fcdcaa0eadd50efc38e30f2ab09"), looks := true }, kinds := [], alts := [], laidByText := true, laidKinds := [.data], laidTests := true, laidLooks := .later }
def NfaLiteralsUptoCardSaid : Prop := Claim7.holds Tryd.pinned (.plain (OpenSpec.upto nfaLiteralsSpec)) nfaLiteralsUptoCard

/-- THE SECOND FORM's CARD OF 'dragomanlaw10.NfaNames'. -/
def nfaNamesUptoCard : Claim7 := { stood := { row := nfaNamesUptoRow, standIns := [], harness := (true, "b76020eeaddf6329b8985470c08b3a5b354c6fcdcaa0eadd50efc38e30f2ab09"), looks := true }, kinds := [], alts := [], laidByText := true, laidKinds := [.data], laidTests := true, laidLooks := .later }
def NfaNamesUptoCardSaid : Prop := Claim7.holds Tryd.pinned (.plain (OpenSpec.upto nfaNamesSpec)) nfaNamesUptoCard

/-- THE SECOND FORM's CARD OF 'dragomanlaw10.NfaCopies'. -/
def nfaCopiesUptoCard : Claim7 := { stood := { row := nfaCopiesUptoRow, standIns := [], harness := (true, "b76020eeaddf6329b8985470c08b3a5b354c6fcdcaa0eadd50efc38e30f2ab09"), looks := true }, kinds := [], alts := [], laidByText := true, laidKinds := [.data], laidTests := true, laidLooks := .later }
def NfaCopiesUptoCardSaid : Prop := Claim7.holds Tryd.pinned (.plain (OpenSpec.upto nfaCopiesSpec)) nfaCopiesUptoCard
end Rows
end Go.Proofs.YtpiflikblpfgoaaDoor
