/-
  DERIVED. GIVEN WITH THE SEED: THE CARDS: each row of YtccpgpnekoncoaaGreatDoorRows.lean that lists a variable, with what it lists TIED to the program's text (the seventh form; the later family's looks); each row that meets fmt, with fmt's text TOLD by the authors' own Lean function (tested against real Go, not proved from fmt's source: count such statements apart). THE CARD IS WHAT COUNTS. Prove the row's statement (the work); the ties are given (YtccpgpnekoncoaaGreatDoorTie.lean); close each card by the builder's one call (the guide's Derived/Test/ToyasCard.lean, 'card_holds'). Laid BY PROGRAM, IN A SANDBOX (cutbox-door.mjs). By AI agents, Wed Nov 11 2026. No macro, syntax, notation, axiom, sorry.
-/
import Derived.Test.YtccpgpnekoncoaaGreatDoorRows
import GoSem.ClaimSeven
namespace Go.Proofs.YtccpgpnekoncoaaGreatDoor
namespace Rows

/-- THE TIED CARD OF 'pairworkstop.TopBase'. -/
def topBaseCard : Claim7 := { stood := { row := topBaseRow, standIns := [], harness := (true, "d9e7219c6019eed1fcb7fcd6a4a057fc378af7a11557a708d4f840fdd6a73640"), looks := true }, kinds := [], alts := [], laidByText := true, laidKinds := [.data, .data], laidTests := true, laidLooks := .later }
def TopBaseCardSaid : Prop := Claim7.holds Tryz.pinned (.plain (OpenSpec.ofChange topBaseSpec)) topBaseCard

/-- THE TIED CARD OF 'pairworkstop.TopSpread'. -/
def topSpreadCard : Claim7 := { stood := { row := topSpreadRow, standIns := [], harness := (true, "d9e7219c6019eed1fcb7fcd6a4a057fc378af7a11557a708d4f840fdd6a73640"), looks := true }, kinds := [], alts := [], laidByText := true, laidKinds := [.data, .data], laidTests := true, laidLooks := .later }
def TopSpreadCardSaid : Prop := Claim7.holds Tryz.pinned (.plain (OpenSpec.ofChange topSpreadSpec)) topSpreadCard

/-- THE SECOND FORM's CARD OF 'pairworkstop.TopBase'. -/
def topBaseUptoCard : Claim7 := { stood := { row := topBaseUptoRow, standIns := [], harness := (true, "d9e7219c6019eed1fcb7fcd6a4a057fc378af7a11557a708d4f840fdd6a73640"), looks := true }, kinds := [], alts := [], laidByText := true, laidKinds := [.data, .data], laidTests := true, laidLooks := .later }
def TopBaseUptoCardSaid : Prop := Claim7.holds Tryz.pinned (.plain (OpenSpec.upto topBaseSpec)) topBaseUptoCard

/-- THE SECOND FORM's CARD OF 'pairworkstop.TopSpread'. -/
def topSpreadUptoCard : Claim7 := { stood := { row := topSpreadUptoRow, standIns := [], harness := (true, "d9e7219c6019eed1fcb7fcd6a4a057fc378af7a11557a708d4f840fdd6a73640"), looks := true }, kinds := [], alts := [], laidByText := true, laidKinds := [.data, .data], laidTests := true, laidLooks := .later }
def TopSpreadUptoCardSaid : Prop := Claim7.holds Tryz.pinned (.plain (OpenSpec.upto topSpreadSpec)) topSpreadUptoCard
end Rows
end Go.Proofs.YtccpgpnekoncoaaGreatDoor
