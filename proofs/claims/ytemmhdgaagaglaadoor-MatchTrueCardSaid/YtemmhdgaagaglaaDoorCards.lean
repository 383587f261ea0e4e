/-
  DERIVED. GIVEN WITH THE SEED: THE CARDS: each row of YtemmhdgaagaglaaDoorRows.lean that lists a variable, with what it lists TIED to the program's text (the seventh form; the later family's looks); each row that meets fmt, with fmt's text TOLD by the authors' own Lean function (tested against real Go, not proved from fmt's source: count such statements apart). THE CARD IS WHAT COUNTS. Prove the row's statement (the work); the ties are given (YtemmhdgaagaglaaDoorTie.lean); close each card by the builder's one call (the guide's Derived/Test/ToyasCard.lean, 'card_holds'). Laid BY PROGRAM, IN A SANDBOX (cutbox-door.mjs). By AI agents, Wed Nov 11 2026. No macro, syntax, notation, axiom, sorry.
-/
import Derived.Test.YtemmhdgaagaglaaDoorRows
import GoSem.ClaimSeven
namespace Go.Proofs.YtemmhdgaagaglaaDoor
namespace Rows

/-- THE TIED CARD OF 'pairworkslaw02.MatchCounts'. -/
def matchCountsCard : Claim7 := { stood := { row := matchCountsRow, standIns := [], harness := (true, "48792c288456b3c281a84ad9e132e6e020a212101a00c0161a021b1306e88a2f"), looks := false }, kinds := [], alts := [], laidByText := true, laidKinds := [.data, .data], laidTests := true, laidLooks := .later }
def MatchCountsCardSaid : Prop := Claim7.holds Tryd.pinned (.plain (OpenSpec.ofChange matchCountsSpec)) matchCountsCard

/-- THE TIED CARD OF 'pairworkslaw02.MatchAsks'. -/
def matchAsksCard : Claim7 := { stood := { row := matchAsksRow, standIns := [], harness := (true, "48792c288456b3c281a84ad9e132e6e020a212101a00c0161a021b1306e88a2f"), looks := false }, kinds := [], alts := [], laidByText := true, laidKinds := [.data, .data], laidTests := true, laidLooks := .later }
def MatchAsksCardSaid : Prop := Claim7.holds Tryd.pinned (.plain (OpenSpec.ofChange matchAsksSpec)) matchAsksCard

/-- THE TIED CARD OF 'pairworkslaw02.MatchFewest'. -/
def matchFewestCard : Claim7 := { stood := { row := matchFewestRow, standIns := [], harness := (true, "48792c288456b3c281a84ad9e132e6e020a212101a00c0161a021b1306e88a2f"), looks := false }, kinds := [], alts := [], laidByText := true, laidKinds := [.data, .data], laidTests := true, laidLooks := .later }
def MatchFewestCardSaid : Prop := Claim7.holds Tryd.pinned (.plain (OpenSpec.ofChange matchFewestSpec)) matchFewestCard

/-- THE TIED CARD OF 'pairworkslaw02.MatchAsk'. -/
def matchAskCard : Claim7 := { stood := { row := matchAskRow, standIns := [], harness := (true, "48792c288456b3c281a84ad9e132e6e020a212101a00c0161a021b1306e88a2f"), looks := false }, kinds := [], alts := [], laidByText := true, laidKinds := [.data, .data], laidTests := true, laidLooks := .later }
def MatchAskCardSaid : Prop := Claim7.holds Tryd.pinned (.plain (OpenSpec.ofChange matchAskSpec)) matchAskCard

/-- THE TIED CARD OF 'pairworkslaw02.MatchMore'. -/
def matchMoreCard : Claim7 := { stood := { row := matchMoreRow, standIns := [], harness := (true, "48792c288456b3c281a84ad9e132e6e020a212101a00c0161a021b1306e88a2f"), looks := false }, kinds := [], alts := [], laidByText := true, laidKinds := [.data, .data], laidTests := true, laidLooks := .later }
def MatchMoreCardSaid : Prop := Claim7.holds Tryd.pinned (.plain (OpenSpec.ofChange matchMoreSpec)) matchMoreCard

/-- THE TIED CARD OF 'pairworkslaw02.MatchSets'. -/
def matchSetsCard : Claim7 := { stood := { row := matchSetsRow, standIns := [], harness := (true, "48792c288456b3c281a84ad9e132e6e020a212101a00c0161a021b1306e88a2f"), looks := false }, kinds := [], alts := [], laidByText := true, laidKinds := [.data, .data], laidTests := true, laidLooks := .later }
def MatchSetsCardSaid : Prop := Claim7.holds Tryd.pinned (.plain (OpenSpec.ofChange matchSetsSpec)) matchSetsCard

/-- THE TIED CARD OF 'pairworkslaw02.MatchNames'. -/
def matchNamesCard : Claim7 := { stood := { row := matchNamesRow, standIns := [], harness := (true, "48792c288456b3c281a84ad9e132e6e020a212101a00c0161a021b1306e88a2f"), looks := false }, kinds := [], alts := [], laidByText := true, laidKinds := [.data, .data], laidTests := true, laidLooks := .later }
def MatchNamesCardSaid : Prop := Claim7.holds Tryd.pinned (.plain (OpenSpec.ofChange matchNamesSpec)) matchNamesCard

/-- THE TIED CARD OF 'pairworkslaw02.MatchTrue'. -/
def matchTrueCard : Claim7 := { stood := { row := matchTrueRow, standIns := [], harness := (true, "48792c288456b3c281a84ad9e132e6e020a212101a00c0161a021b1306e88a2f"), looks := false }, kinds := [], alts := [], laidByText := true, laidKinds := [.data, .data], laidTests := true, laidLooks := .later }
def MatchTrueCardSaid : Prop := Claim7.holds Tryd.pinned (.plain (OpenSpec.ofChange matchTrueSpec)) matchTrueCard

/-- THE TIED CARD OF 'pairworkslaw02.MatchSure'. -/
def matchSureCard : Claim7 := { stood := { row := matchSureRow, standIns := [], harness := (true, "48792c288456b3c281a84ad9e132e6e020a212101a00c0161a021b1306e88a2f"), looks := false }, kinds := [], alts := [], laidByText := true, laidKinds := [.data, .data], laidTests := true, laidLooks := .later }
def MatchSureCardSaid : Prop := Claim7.holds Tryd.pinned (.plain (OpenSpec.ofChange matchSureSpec)) matchSureCard

/-- THE TIED CARD OF 'pairworkslaw02.MatchTurned'. -/
def matchTurnedCard : Claim7 := { stood := { row := matchTurnedRow, standIns := [], harness := (true, "48792c288456b3c281a84ad9e132e6e020a212101a00c0161a021b1306e88a2f"), looks := false }, kinds := [], alts := [], laidByText := true, laidKinds := [.data, .data], laidTests := true, laidLooks := .later }
def MatchTurnedCardSaid : Prop := Claim7.holds Tryd.pinned (.plain (OpenSpec.ofChange matchTurnedSpec)) matchTurnedCard

/-- THE SECOND FORM's CARD OF 'pairworkslaw02.MatchCounts'. -/
def matchCountsUptoCard : Claim7 := { stood := { row := matchCountsUptoRow, standIns := [], harness := (true, "48792c288456b3c281a84ad9e132e6e020a212101a00c0161a021b1306e88a2f"), looks := false }, kinds := [], alts := [], laidByText := true, laidKinds := [.data, .data], laidTests := true, laidLooks := .later }
def MatchCountsUptoCardSaid : Prop := Claim7.holds Tryd.pinned (.plain (OpenSpec.upto matchCountsSpec)) matchCountsUptoCard

/-- THE SECOND FORM's CARD OF 'pairworkslaw02.MatchAsks'. -/
def matchAsksUptoCard : Claim7 := { stood := { row := matchAsksUptoRow, standIns := [], harness := (true, "48792c288456b3c281a84ad9e132e6e020a212101a00c0161a021b1306e88a2f"), looks := false }, kinds := [], alts := [], laidByText := true, laidKinds := [.data, .data], laidTests := true, laidLooks := .later }
def MatchAsksUptoCardSaid : Prop := Claim7.holds Tryd.pinned (.plain (OpenSpec.upto matchAsksSpec)) matchAsksUptoCard

/-- THE SECOND FORM's CARD OF 'pairworkslaw02.MatchFewest'. -/
def matchFewestUptoCard : Claim7 := { stood := { row := matchFewestUptoRow, standIns := [], harness := (true, "48792c288456b3c281a84ad9e132e6e020a212101a00c0161a021b1306e88a2f"), looks := false }, kinds := [], alts := [], laidByText := true, laidKinds := [.data, .data], laidTests := true, laidLooks := .later }
def MatchFewestUptoCardSaid : Prop := Claim7.holds Tryd.pinned (.plain (OpenSpec.upto matchFewestSpec)) matchFewestUptoCard

/-- THE SECOND FORM's CARD OF 'pairworkslaw02.MatchAsk'. -/
def matchAskUptoCard : Claim7 := { stood := { row := matchAskUptoRow, standIns := [], harness := (true, "48792c288456b3c281a84ad9e132e6e020a212101a00c0161a021b1306e88a2f"), looks := false }, kinds := [], alts := [], laidByText := true, laidKinds := [.data, .data], laidTests := true, laidLooks := .later }
def MatchAskUptoCardSaid : Prop := Claim7.holds Tryd.pinned (.plain (OpenSpec.upto matchAskSpec)) matchAskUptoCard

/-- THE SECOND FORM's CARD OF 'pairworkslaw02.MatchMore'. -/
def matchMoreUptoCard : Claim7 := { stood := { row := matchMoreUptoRow, standIns := [], harness := (true, "48792c288456b3c281a84ad9e132e6e020a212101a00c0161a021b1306e88a2f"), looks := false }, kinds := [], alts := [], laidByText := true, laidKinds := [.data, .data], laidTests := true, laidLooks := .later }
def MatchMoreUptoCardSaid : Prop := Claim7.holds Tryd.pinned (.plain (OpenSpec.upto matchMoreSpec)) matchMoreUptoCard

/-- THE SECOND FORM's CARD OF 'pairworkslaw02.MatchSets'. -/
def matchSetsUptoCard : Claim7 := { stood := { row := matchSetsUptoRow, standIns := [], harness := (true, "48792c288456b3c281a84ad9e132e6e020a212101a00c0161a021b1306e88a2f"), looks := false }, kinds := [], alts := [], laidByText := true, laidKinds := [.data, .data], laidTests := true, laidLooks := .later }
def MatchSetsUptoCardSaid : Prop := Claim7.holds Tryd.pinned (.plain (OpenSpec.upto matchSetsSpec)) matchSetsUptoCard

/-- THE SECOND FORM's CARD OF 'pairworkslaw02.MatchNames'. -/
def matchNamesUptoCard : Claim7 := { stood := { row := matchNamesUptoRow, standIns := [], harness := (true, "48792c288456b3c281a84ad9e132e6e020a212101a00c0161a021b1306e88a2f"), looks := false }, kinds := [], alts := [], laidByText := true, laidKinds := [.data, .data], laidTests := true, laidLooks := .later }
def MatchNamesUptoCardSaid : Prop := Claim7.holds Tryd.pinned (.plain (OpenSpec.upto matchNamesSpec)) matchNamesUptoCard

/-- THE SECOND FORM's CARD OF 'pairworkslaw02.MatchTrue'. -/
def matchTrueUptoCard : Claim7 := { stood := { row := matchTrueUptoRow, standIns := [], harness := (true, "48792c288456b3c281a84ad9e132e6e020a212101a00c0161a021b1306e88a2f"), looks := false }, kinds := [], alts := [], laidByText := true, laidKinds := [.data, .data], laidTests := true, laidLooks := .later }
def MatchTrueUptoCardSaid : Prop := Claim7.holds Tryd.pinned (.plain (OpenSpec.upto matchTrueSpec)) matchTrueUptoCard

/-- THE SECOND FORM's CARD OF 'pairworkslaw02.MatchSure'. -/
def matchSureUptoCard : Claim7 := { stood := { row := matchSureUptoRow, standIns := [], harness := (true, "48792c288456b3c281a84ad9e132e6e020a212101a00c0161a021b1306e88a2f"), looks := false }, kinds := [], alts := [], laidByText := true, laidKinds := [.data, .data], laidTests := true, laidLooks := .later }
def MatchSureUptoCardSaid : Prop := Claim7.holds Tryd.pinned (.plain (OpenSpec.upto matchSureSpec)) matchSureUptoCard

/-- THE SECOND FORM's CARD OF 'pairworkslaw02.MatchTurned'. -/
def matchTurnedUptoCard : Claim7 := { stood := { row := matchTurnedUptoRow, standIns := [], harness := (true, "48792c288456b3c281a84ad9e132e6e020a212101a00c0161a021b1306e88a2f"), looks := false }, kinds := [], alts := [], laidByText := true, laidKinds := [.data, .data], laidTests := true, laidLooks := .later }
def MatchTurnedUptoCardSaid : Prop := Claim7.holds Tryd.pinned (.plain (OpenSpec.upto matchTurnedSpec)) matchTurnedUptoCard
end Rows
end Go.Proofs.YtemmhdgaagaglaaDoor
