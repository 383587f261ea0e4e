/-
  DERIVED. GIVEN WITH THE SEED: THE CARDS: each row of YtkolcbjghphjeaaDoorRows.lean that lists a variable, with what it lists TIED to the program's text (the seventh form; the later family's looks); each row that meets fmt, with fmt's text TOLD by the authors' own Lean function (tested against real Go, not proved from fmt's source: count such statements apart). THE CARD IS WHAT COUNTS. Prove the row's statement (the work); the ties are given (YtkolcbjghphjeaaDoorTie.lean); close each card by the builder's one call (the guide's Derived/Test/ToyasCard.lean, 'card_holds'). Laid BY PROGRAM, IN A SANDBOX (cutbox-door.mjs). By AI agents, Wed Nov 11 2026. No macro, syntax, notation, axiom, sorry.
-/
import Derived.Test.YtkolcbjghphjeaaDoorRows
import GoSem.ClaimSeven
namespace Go.Proofs.YtkolcbjghphjeaaDoor
namespace Rows

/-- THE TIED CARD OF 'pairworkslaw04.BarTakes'. -/
def barTakesCard : Claim7 := { stood := { row := barTakesRow, standIns := [], harness := (true, "59cffd2fd91c1c3493101edc0cb9f41b4e0de5edd00703c1601dea3dd60cc70b"), looks := false }, kinds := [], alts := [], laidByText := true, laidKinds := [.data, .data], laidTests := true, laidLooks := .later }
def BarTakesCardSaid : Prop := Claim7.holds Tryd.pinned (.plain (OpenSpec.ofChange barTakesSpec)) barTakesCard

/-- THE TIED CARD OF 'pairworkslaw04.BarPlans'. -/
def barPlansCard : Claim7 := { stood := { row := barPlansRow, standIns := [], harness := (true, "59cffd2fd91c1c3493101edc0cb9f41b4e0de5edd00703c1601dea3dd60cc70b"), looks := false }, kinds := [], alts := [], laidByText := true, laidKinds := [.data, .data], laidTests := true, laidLooks := .later }
def BarPlansCardSaid : Prop := Claim7.holds Tryd.pinned (.plain (OpenSpec.ofChange barPlansSpec)) barPlansCard

/-- THE TIED CARD OF 'pairworkslaw04.BarPairs'. -/
def barPairsCard : Claim7 := { stood := { row := barPairsRow, standIns := [], harness := (true, "59cffd2fd91c1c3493101edc0cb9f41b4e0de5edd00703c1601dea3dd60cc70b"), looks := false }, kinds := [], alts := [], laidByText := true, laidKinds := [.data, .data], laidTests := true, laidLooks := .later }
def BarPairsCardSaid : Prop := Claim7.holds Tryd.pinned (.plain (OpenSpec.ofChange barPairsSpec)) barPairsCard

/-- THE TIED CARD OF 'pairworkslaw04.BarFewest'. -/
def barFewestCard : Claim7 := { stood := { row := barFewestRow, standIns := [], harness := (true, "59cffd2fd91c1c3493101edc0cb9f41b4e0de5edd00703c1601dea3dd60cc70b"), looks := false }, kinds := [], alts := [], laidByText := true, laidKinds := [.data, .data], laidTests := true, laidLooks := .later }
def BarFewestCardSaid : Prop := Claim7.holds Tryd.pinned (.plain (OpenSpec.ofChange barFewestSpec)) barFewestCard

/-- THE TIED CARD OF 'pairworkslaw04.BarCount'. -/
def barCountCard : Claim7 := { stood := { row := barCountRow, standIns := [], harness := (true, "59cffd2fd91c1c3493101edc0cb9f41b4e0de5edd00703c1601dea3dd60cc70b"), looks := false }, kinds := [], alts := [], laidByText := true, laidKinds := [.data, .data], laidTests := true, laidLooks := .later }
def BarCountCardSaid : Prop := Claim7.holds Tryd.pinned (.plain (OpenSpec.ofChange barCountSpec)) barCountCard

/-- THE TIED CARD OF 'pairworkslaw04.BarMost'. -/
def barMostCard : Claim7 := { stood := { row := barMostRow, standIns := [], harness := (true, "59cffd2fd91c1c3493101edc0cb9f41b4e0de5edd00703c1601dea3dd60cc70b"), looks := false }, kinds := [], alts := [], laidByText := true, laidKinds := [.data, .data], laidTests := true, laidLooks := .later }
def BarMostCardSaid : Prop := Claim7.holds Tryd.pinned (.plain (OpenSpec.ofChange barMostSpec)) barMostCard

/-- THE TIED CARD OF 'pairworkslaw04.BarWhy'. -/
def barWhyCard : Claim7 := { stood := { row := barWhyRow, standIns := [], harness := (true, "59cffd2fd91c1c3493101edc0cb9f41b4e0de5edd00703c1601dea3dd60cc70b"), looks := false }, kinds := [], alts := [], laidByText := true, laidKinds := [.data, .data], laidTests := true, laidLooks := .later }
def BarWhyCardSaid : Prop := Claim7.holds Tryd.pinned (.plain (OpenSpec.ofChange barWhySpec)) barWhyCard

/-- THE TIED CARD OF 'pairworkslaw04.BarMore'. -/
def barMoreCard : Claim7 := { stood := { row := barMoreRow, standIns := [], harness := (true, "59cffd2fd91c1c3493101edc0cb9f41b4e0de5edd00703c1601dea3dd60cc70b"), looks := false }, kinds := [], alts := [], laidByText := true, laidKinds := [.data, .data], laidTests := true, laidLooks := .later }
def BarMoreCardSaid : Prop := Claim7.holds Tryd.pinned (.plain (OpenSpec.ofChange barMoreSpec)) barMoreCard

/-- THE TIED CARD OF 'pairworkslaw04.BarTurned'. -/
def barTurnedCard : Claim7 := { stood := { row := barTurnedRow, standIns := [], harness := (true, "59cffd2fd91c1c3493101edc0cb9f41b4e0de5edd00703c1601dea3dd60cc70b"), looks := false }, kinds := [], alts := [], laidByText := true, laidKinds := [.data, .data], laidTests := true, laidLooks := .later }
def BarTurnedCardSaid : Prop := Claim7.holds Tryd.pinned (.plain (OpenSpec.ofChange barTurnedSpec)) barTurnedCard

/-- THE SECOND FORM's CARD OF 'pairworkslaw04.BarTakes'. -/
def barTakesUptoCard : Claim7 := { stood := { row := barTakesUptoRow, standIns := [], harness := (true, "59cffd2fd91c1c3493101edc0cb9f41b4e0de5edd00703c1601dea3dd60cc70b"), looks := false }, kinds := [], alts := [], laidByText := true, laidKinds := [.data, .data], laidTests := true, laidLooks := .later }
def BarTakesUptoCardSaid : Prop := Claim7.holds Tryd.pinned (.plain (OpenSpec.upto barTakesSpec)) barTakesUptoCard

/-- THE SECOND FORM's CARD OF 'pairworkslaw04.BarPlans'. -/
def barPlansUptoCard : Claim7 := { stood := { row := barPlansUptoRow, standIns := [], harness := (true, "59cffd2fd91c1c3493101edc0cb9f41b4e0de5edd00703c1601dea3dd60cc70b"), looks := false }, kinds := [], alts := [], laidByText := true, laidKinds := [.data, .data], laidTests := true, laidLooks := .later }
def BarPlansUptoCardSaid : Prop := Claim7.holds Tryd.pinned (.plain (OpenSpec.upto barPlansSpec)) barPlansUptoCard

/-- THE SECOND FORM's CARD OF 'pairworkslaw04.BarPairs'. -/
def barPairsUptoCard : Claim7 := { stood := { row := barPairsUptoRow, standIns := [], harness := (true, "59cffd2fd91c1c3493101edc0cb9f41b4e0de5edd00703c1601dea3dd60cc70b"), looks := false }, kinds := [], alts := [], laidByText := true, laidKinds := [.data, .data], laidTests := true, laidLooks := .later }
def BarPairsUptoCardSaid : Prop := Claim7.holds Tryd.pinned (.plain (OpenSpec.upto barPairsSpec)) barPairsUptoCard

/-- THE SECOND FORM's CARD OF 'pairworkslaw04.BarFewest'. -/
def barFewestUptoCard : Claim7 := { stood := { row := barFewestUptoRow, standIns := [], harness := (true, "59cffd2fd91c1c3493101edc0cb9f41b4e0de5edd00703c1601dea3dd60cc70b"), looks := false }, kinds := [], alts := [], laidByText := true, laidKinds := [.data, .data], laidTests := true, laidLooks := .later }
def BarFewestUptoCardSaid : Prop := Claim7.holds Tryd.pinned (.plain (OpenSpec.upto barFewestSpec)) barFewestUptoCard

/-- THE SECOND FORM's CARD OF 'pairworkslaw04.BarCount'. -/
def barCountUptoCard : Claim7 := { stood := { row := barCountUptoRow, standIns := [], harness := (true, "59cffd2fd91c1c3493101edc0cb9f41b4e0de5edd00703c1601dea3dd60cc70b"), looks := false }, kinds := [], alts := [], laidByText := true, laidKinds := [.data, .data], laidTests := true, laidLooks := .later }
def BarCountUptoCardSaid : Prop := Claim7.holds Tryd.pinned (.plain (OpenSpec.upto barCountSpec)) barCountUptoCard

/-- THE SECOND FORM's CARD OF 'pairworkslaw04.BarMost'. -/
def barMostUptoCard : Claim7 := { stood := { row := barMostUptoRow, standIns := [], harness := (true, "59cffd2fd91c1c3493101edc0cb9f41b4e0de5edd00703c1601dea3dd60cc70b"), looks := false }, kinds := [], alts := [], laidByText := true, laidKinds := [.data, .data], laidTests := true, laidLooks := .later }
def BarMostUptoCardSaid : Prop := Claim7.holds Tryd.pinned (.plain (OpenSpec.upto barMostSpec)) barMostUptoCard

/-- THE SECOND FORM's CARD OF 'pairworkslaw04.BarWhy'. -/
def barWhyUptoCard : Claim7 := { stood := { row := barWhyUptoRow, standIns := [], harness := (true, "59cffd2fd91c1c3493101edc0cb9f41b4e0de5edd00703c1601dea3dd60cc70b"), looks := false }, kinds := [], alts := [], laidByText := true, laidKinds := [.data, .data], laidTests := true, laidLooks := .later }
def BarWhyUptoCardSaid : Prop := Claim7.holds Tryd.pinned (.plain (OpenSpec.upto barWhySpec)) barWhyUptoCard

/-- THE SECOND FORM's CARD OF 'pairworkslaw04.BarMore'. -/
def barMoreUptoCard : Claim7 := { stood := { row := barMoreUptoRow, standIns := [], harness := (true, "59cffd2fd91c1c3493101edc0cb9f41b4e0de5edd00703c1601dea3dd60cc70b"), looks := false }, kinds := [], alts := [], laidByText := true, laidKinds := [.data, .data], laidTests := true, laidLooks := .later }
def BarMoreUptoCardSaid : Prop := Claim7.holds Tryd.pinned (.plain (OpenSpec.upto barMoreSpec)) barMoreUptoCard

/-- THE SECOND FORM's CARD OF 'pairworkslaw04.BarTurned'. -/
def barTurnedUptoCard : Claim7 := { stood := { row := barTurnedUptoRow, standIns := [], harness := (true, "59cffd2fd91c1c3493101edc0cb9f41b4e0de5edd00703c1601dea3dd60cc70b"), looks := false }, kinds := [], alts := [], laidByText := true, laidKinds := [.data, .data], laidTests := true, laidLooks := .later }
def BarTurnedUptoCardSaid : Prop := Claim7.holds Tryd.pinned (.plain (OpenSpec.upto barTurnedSpec)) barTurnedUptoCard
end Rows
end Go.Proofs.YtkolcbjghphjeaaDoor
