/-
  No cell of these rows narrows 'for every input' (looked for: loops, veiled, ifaces, maps, wideKeys, modest, calm, conditions, laid).
  DERIVED. THE GIVEN ROWS OF THIS SEAT. 7 by the template 'for every input the law returns true; each argument reads behind the call as it read before'; 0 by the template 'total and deterministic' (their statements: YtidieepndphodaaTotals.lean).
  GIVEN WITH THE SEED: the statements are not yours to turn. If you find one false, say at which input.
  Laid BY PROGRAM, IN A SANDBOX (cutbox-rows.mjs): the forced cells as the released guide's own fill.sh prints them over the translation 9c68c0fb259a136b… (all of the seat's roots in one cut). By AI agents, Wed Nov 11 2026. No macro, syntax, notation, axiom, sorry.
-/
import Derived.Test.YtidieepndphodaaChecked
import GoSem.Claim
import GoSem.ClaimJoined
import GoSem.ClaimMapViews
import Derived.JoinedTies
import Derived.KernelRfl
namespace Go.Proofs.Ytidieepndphodaa
/- THE CELL 'sum', in the pinned program and in every row, IS THE sha256 OF THE DUMP (.gsa) THAT YtidieepndphodaaProg.lean LOADS. Nothing in Lean hashes anything: it is a label: what it is worth is what the hold of that sum in a sandbox is worth. -/
noncomputable def Try.pinned : Pinned := { name := "ytidieepndphodaa", sum := "9c68c0fb259a136bb2c2837a76af18473a66f7727782590369e5973b9b197591", checked := Try.checked }
namespace Rows
def none {H : Type} : Left H := { results := [], args := [] }

/-- 'pairworkslaw09.PaintNames': WHATEVER THE INPUT: true; the input reads as it did. -/
def paintNamesSpec : ChangeSpec := { name := "paintNames", fn := fun _ => fun
  | [] => { results := [.lit (.bool true)], args := [] }
  | _ => none }
def paintNamesRow : OpenClaim := { program := "ytidieepndphodaa", sum := "9c68c0fb259a136bb2c2837a76af18473a66f7727782590369e5973b9b197591", func := "pairworks/pairworkslaw09.PaintNames", spec := "paintNames", unfollowed := true, recurses := true, plainKeys := false, apart := false }
def PaintNamesSaid : Prop := paintNamesRow.holds Try.pinned (OpenSpec.ofChange paintNamesSpec)

/-- ITS FALSE NEIGHBOUR: 'it returns false'. Refute it at one input. -/
def paintNamesWrong : ChangeSpec := { name := "paintNames", fn := fun _ => fun
  | [] => { results := [.lit (.bool false)], args := [] }
  | _ => none }
def PaintNamesWrongFalsely : Prop := paintNamesRow.holds Try.pinned (OpenSpec.ofChange paintNamesWrong)

/-- 'pairworkslaw09.PaintSets': WHATEVER THE INPUT: true; the input reads as it did. -/
def paintSetsSpec : ChangeSpec := { name := "paintSets", fn := fun _ => fun
  | [d] => { results := [.lit (.bool true)], args := [d] }
  | _ => none }
def paintSetsRow : OpenClaim := { program := "ytidieepndphodaa", sum := "9c68c0fb259a136bb2c2837a76af18473a66f7727782590369e5973b9b197591", func := "pairworks/pairworkslaw09.PaintSets", spec := "paintSets", unfollowed := true, recurses := true, plainKeys := false, apart := false }
def PaintSetsSaid : Prop := paintSetsRow.holds Try.pinned (OpenSpec.ofChange paintSetsSpec)

/-- ITS FALSE NEIGHBOUR: 'it returns false'. Refute it at one input. -/
def paintSetsWrong : ChangeSpec := { name := "paintSets", fn := fun _ => fun
  | [d] => { results := [.lit (.bool false)], args := [d] }
  | _ => none }
def PaintSetsWrongFalsely : Prop := paintSetsRow.holds Try.pinned (OpenSpec.ofChange paintSetsWrong)

/-- 'pairworkslaw09.PaintLens': WHATEVER THE INPUT: true; the input reads as it did. -/
def paintLensSpec : ChangeSpec := { name := "paintLens", fn := fun _ => fun
  | [d1, d2] => { results := [.lit (.bool true)], args := [d1, d2] }
  | _ => none }
def paintLensRow : OpenClaim := { program := "ytidieepndphodaa", sum := "9c68c0fb259a136bb2c2837a76af18473a66f7727782590369e5973b9b197591", func := "pairworks/pairworkslaw09.PaintLens", spec := "paintLens", unfollowed := true, recurses := true, plainKeys := false, apart := false }
def PaintLensSaid : Prop := paintLensRow.holds Try.pinned (OpenSpec.ofChange paintLensSpec)

/-- ITS FALSE NEIGHBOUR: 'it returns false'. Refute it at one input. -/
def paintLensWrong : ChangeSpec := { name := "paintLens", fn := fun _ => fun
  | [d1, d2] => { results := [.lit (.bool false)], args := [d1, d2] }
  | _ => none }
def PaintLensWrongFalsely : Prop := paintLensRow.holds Try.pinned (OpenSpec.ofChange paintLensWrong)

/-- 'pairworkslaw09.PaintTurned': WHATEVER THE INPUT: true; the input reads as it did. -/
def paintTurnedSpec : ChangeSpec := { name := "paintTurned", fn := fun _ => fun
  | [d] => { results := [.lit (.bool true)], args := [d] }
  | _ => none }
def paintTurnedRow : OpenClaim := { program := "ytidieepndphodaa", sum := "9c68c0fb259a136bb2c2837a76af18473a66f7727782590369e5973b9b197591", func := "pairworks/pairworkslaw09.PaintTurned", spec := "paintTurned", unfollowed := true, recurses := true, plainKeys := false, apart := false }
def PaintTurnedSaid : Prop := paintTurnedRow.holds Try.pinned (OpenSpec.ofChange paintTurnedSpec)

/-- ITS FALSE NEIGHBOUR: 'it returns false'. Refute it at one input. -/
def paintTurnedWrong : ChangeSpec := { name := "paintTurned", fn := fun _ => fun
  | [d] => { results := [.lit (.bool false)], args := [d] }
  | _ => none }
def PaintTurnedWrongFalsely : Prop := paintTurnedRow.holds Try.pinned (OpenSpec.ofChange paintTurnedWrong)

/-- 'pairworkslaw09.PaintTrue': WHATEVER THE INPUT: true; the input reads as it did. -/
def paintTrueSpec : ChangeSpec := { name := "paintTrue", fn := fun _ => fun
  | [d] => { results := [.lit (.bool true)], args := [d] }
  | _ => none }
def paintTrueRow : OpenClaim := { program := "ytidieepndphodaa", sum := "9c68c0fb259a136bb2c2837a76af18473a66f7727782590369e5973b9b197591", func := "pairworks/pairworkslaw09.PaintTrue", spec := "paintTrue", unfollowed := true, recurses := true, plainKeys := false, apart := false }
def PaintTrueSaid : Prop := paintTrueRow.holds Try.pinned (OpenSpec.ofChange paintTrueSpec)

/-- ITS FALSE NEIGHBOUR: 'it returns false'. Refute it at one input. -/
def paintTrueWrong : ChangeSpec := { name := "paintTrue", fn := fun _ => fun
  | [d] => { results := [.lit (.bool false)], args := [d] }
  | _ => none }
def PaintTrueWrongFalsely : Prop := paintTrueRow.holds Try.pinned (OpenSpec.ofChange paintTrueWrong)

/-- 'pairworkslaw09.PaintFits': WHATEVER THE INPUT: true; the input reads as it did. -/
def paintFitsSpec : ChangeSpec := { name := "paintFits", fn := fun _ => fun
  | [d1, d2, d3] => { results := [.lit (.bool true)], args := [d1, d2, d3] }
  | _ => none }
def paintFitsRow : OpenClaim := { program := "ytidieepndphodaa", sum := "9c68c0fb259a136bb2c2837a76af18473a66f7727782590369e5973b9b197591", func := "pairworks/pairworkslaw09.PaintFits", spec := "paintFits", unfollowed := true, recurses := true, plainKeys := false, apart := false }
def PaintFitsSaid : Prop := paintFitsRow.holds Try.pinned (OpenSpec.ofChange paintFitsSpec)

/-- ITS FALSE NEIGHBOUR: 'it returns false'. Refute it at one input. -/
def paintFitsWrong : ChangeSpec := { name := "paintFits", fn := fun _ => fun
  | [d1, d2, d3] => { results := [.lit (.bool false)], args := [d1, d2, d3] }
  | _ => none }
def PaintFitsWrongFalsely : Prop := paintFitsRow.holds Try.pinned (OpenSpec.ofChange paintFitsWrong)

/-- 'pairworkslaw09.PaintMore': WHATEVER THE INPUT: true; the input reads as it did. -/
def paintMoreSpec : ChangeSpec := { name := "paintMore", fn := fun _ => fun
  | [d1, d2, d3] => { results := [.lit (.bool true)], args := [d1, d2, d3] }
  | _ => none }
def paintMoreRow : OpenClaim := { program := "ytidieepndphodaa", sum := "9c68c0fb259a136bb2c2837a76af18473a66f7727782590369e5973b9b197591", func := "pairworks/pairworkslaw09.PaintMore", spec := "paintMore", unfollowed := true, recurses := true, plainKeys := false, apart := false }
def PaintMoreSaid : Prop := paintMoreRow.holds Try.pinned (OpenSpec.ofChange paintMoreSpec)

/-- ITS FALSE NEIGHBOUR: 'it returns false'. Refute it at one input. -/
def paintMoreWrong : ChangeSpec := { name := "paintMore", fn := fun _ => fun
  | [d1, d2, d3] => { results := [.lit (.bool false)], args := [d1, d2, d3] }
  | _ => none }
def PaintMoreWrongFalsely : Prop := paintMoreRow.holds Try.pinned (OpenSpec.ofChange paintMoreWrong)

/- THE SECOND FORM. 'bulk': how many values and letters a reading holds, each counted each time it is reached (what is shared counts as often as it is met; a slice's spare places count too). A statement '..UptoSaid' is the law's where the arguments, and the package variables that the reading takes, are together of bulk at most 1048576: NARROWER than '..Said'. Prove '..Said' where nothing that the law and all that it calls make is longer than what came in: it says more and counts as full. Else prove '..UptoSaid'. A law counts once. -/
mutual
def uptoBulk {H : Type} : DataW H → Nat
  | .lit (.string bytes) => bytes.length + 1
  | .lit _ => 1
  | .nil => 1
  | .ptr d => uptoBulk d + 1
  | .slice elems spare => uptoBulkAll elems + uptoBulkAll spare + 1
  | .agg parts => uptoBulkAll parts + 1
  | .iface _ d => uptoBulk d + 1
  | .map entries => uptoBulkEntries entries + 1
  | .held _ => 1
def uptoBulkAll {H : Type} : List (DataW H) → Nat
  | [] => 0
  | d :: r => uptoBulk d + uptoBulkAll r
def uptoBulkEntries {H : Type} : List (Lit × DataW H) → Nat
  | [] => 0
  | x :: r => uptoBulkEntry x + uptoBulkEntries r
def uptoBulkEntry {H : Type} : Lit × DataW H → Nat
  | (.string bytes, d) => bytes.length + uptoBulk d + 1
  | (_, d) => uptoBulk d + 1
 end
def uptoSmall : (H : Type) → List (DataW H) → Bool := fun _ ds => decide (uptoBulkAll ds ≤ 1048576)
def OpenSpec.upto (s : _root_.Go.ChangeSpec) : _root_.Go.OpenSpec := { _root_.Go.OpenSpec.ofChange s with cond := some uptoSmall }

/-- 'pairworkslaw09.PaintNames', WHERE WHAT IT READS IS OF BULK AT MOST 1048576: true; the input reads as it did. -/
def paintNamesUptoRow : OpenClaim := { program := "ytidieepndphodaa", sum := "9c68c0fb259a136bb2c2837a76af18473a66f7727782590369e5973b9b197591", func := "pairworks/pairworkslaw09.PaintNames", spec := "paintNames", unfollowed := true, recurses := true, plainKeys := false, apart := false, narrowed := true }
def PaintNamesUptoSaid : Prop := paintNamesUptoRow.holds Try.pinned (OpenSpec.upto paintNamesSpec)

/-- 'pairworkslaw09.PaintSets', WHERE WHAT IT READS IS OF BULK AT MOST 1048576: true; the input reads as it did. -/
def paintSetsUptoRow : OpenClaim := { program := "ytidieepndphodaa", sum := "9c68c0fb259a136bb2c2837a76af18473a66f7727782590369e5973b9b197591", func := "pairworks/pairworkslaw09.PaintSets", spec := "paintSets", unfollowed := true, recurses := true, plainKeys := false, apart := false, narrowed := true }
def PaintSetsUptoSaid : Prop := paintSetsUptoRow.holds Try.pinned (OpenSpec.upto paintSetsSpec)

/-- 'pairworkslaw09.PaintLens', WHERE WHAT IT READS IS OF BULK AT MOST 1048576: true; the input reads as it did. -/
def paintLensUptoRow : OpenClaim := { program := "ytidieepndphodaa", sum := "9c68c0fb259a136bb2c2837a76af18473a66f7727782590369e5973b9b197591", func := "pairworks/pairworkslaw09.PaintLens", spec := "paintLens", unfollowed := true, recurses := true, plainKeys := false, apart := false, narrowed := true }
def PaintLensUptoSaid : Prop := paintLensUptoRow.holds Try.pinned (OpenSpec.upto paintLensSpec)

/-- 'pairworkslaw09.PaintTurned', WHERE WHAT IT READS IS OF BULK AT MOST 1048576: true; the input reads as it did. -/
def paintTurnedUptoRow : OpenClaim := { program := "ytidieepndphodaa", sum := "9c68c0fb259a136bb2c2837a76af18473a66f7727782590369e5973b9b197591", func := "pairworks/pairworkslaw09.PaintTurned", spec := "paintTurned", unfollowed := true, recurses := true, plainKeys := false, apart := false, narrowed := true }
def PaintTurnedUptoSaid : Prop := paintTurnedUptoRow.holds Try.pinned (OpenSpec.upto paintTurnedSpec)

/-- 'pairworkslaw09.PaintTrue', WHERE WHAT IT READS IS OF BULK AT MOST 1048576: true; the input reads as it did. -/
def paintTrueUptoRow : OpenClaim := { program := "ytidieepndphodaa", sum := "9c68c0fb259a136bb2c2837a76af18473a66f7727782590369e5973b9b197591", func := "pairworks/pairworkslaw09.PaintTrue", spec := "paintTrue", unfollowed := true, recurses := true, plainKeys := false, apart := false, narrowed := true }
def PaintTrueUptoSaid : Prop := paintTrueUptoRow.holds Try.pinned (OpenSpec.upto paintTrueSpec)

/-- 'pairworkslaw09.PaintFits', WHERE WHAT IT READS IS OF BULK AT MOST 1048576: true; the input reads as it did. -/
def paintFitsUptoRow : OpenClaim := { program := "ytidieepndphodaa", sum := "9c68c0fb259a136bb2c2837a76af18473a66f7727782590369e5973b9b197591", func := "pairworks/pairworkslaw09.PaintFits", spec := "paintFits", unfollowed := true, recurses := true, plainKeys := false, apart := false, narrowed := true }
def PaintFitsUptoSaid : Prop := paintFitsUptoRow.holds Try.pinned (OpenSpec.upto paintFitsSpec)

/-- 'pairworkslaw09.PaintMore', WHERE WHAT IT READS IS OF BULK AT MOST 1048576: true; the input reads as it did. -/
def paintMoreUptoRow : OpenClaim := { program := "ytidieepndphodaa", sum := "9c68c0fb259a136bb2c2837a76af18473a66f7727782590369e5973b9b197591", func := "pairworks/pairworkslaw09.PaintMore", spec := "paintMore", unfollowed := true, recurses := true, plainKeys := false, apart := false, narrowed := true }
def PaintMoreUptoSaid : Prop := paintMoreUptoRow.holds Try.pinned (OpenSpec.upto paintMoreSpec)

end Rows
end Go.Proofs.Ytidieepndphodaa
