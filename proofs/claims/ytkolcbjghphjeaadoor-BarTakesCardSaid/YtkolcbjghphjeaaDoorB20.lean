/- BarTakes returns true for every input: the tied card. Condition: the library's two tables of math/bits lie as the program's text lays them. -/
import Derived.Test.YtkolcbjghphjeaaDoorB19
import Derived.Test.YtkolcbjghphjeaaDoorCards
import Derived.Test.YtkolcbjghphjeaaDoorTie
import Derived.SevenTiedAt
namespace Go.Proofs.YtkolcbjghphjeaaDoor
open Go
theorem ws24 : Tryd.prog.wantsStandIn 24 = false := by kernel_rfl
theorem ws3 : Tryd.prog.wantsStandIn 3 = false := by kernel_rfl
theorem barTakes_card : Rows.BarTakesCardSaid :=
  Claim7.holds_tied_plain_at .later [] [.data, .data] true (true, "59cffd2fd91c1c3493101edc0cb9f41b4e0de5edd00703c1601dea3dd60cc70b") false
    barTakes_holds (fun _ h => by cases h) (by kernel_rfl) (fun _ h => by cases h) barTakes_row_tie rfl ⟨rfl, rfl⟩ (by kernel_rfl) rfl
    (fun f fn hf hfn => by
      obtain rfl : f = 3 := Option.some.inj ((show Tryd.prog.funcNamed "pairworks/pairworkslaw04.BarTakes" = some 3 by kernel_rfl).symm.trans hf) |>.symm
      obtain rfl : fn = Tryd.f3 := (Option.some.inj (Tryd.func3.symm.trans hfn)).symm
      exact ⟨by kernel_rfl, fun j t ht => by
        have hm : t ∈ Tryd.f3.params.toList := by
          rw [Array.mem_toList_iff]; exact Array.mem_of_getElem? ht
        rw [par3] at hm
        simp at hm
        rcases hm with rfl | rfl
        · exact ws24
        · exact ws3⟩)
    (by kernel_rfl)
#print axioms barTakes_card
end Go.Proofs.YtkolcbjghphjeaaDoor
