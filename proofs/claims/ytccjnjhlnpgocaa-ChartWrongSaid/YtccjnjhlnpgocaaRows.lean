/-
  No cell of these rows narrows 'for every input' (looked for: loops, veiled, ifaces, maps, wideKeys, modest, calm, conditions, laid).
  DERIVED. THE GIVEN ROWS OF THIS SEAT. 10 by the template 'for every input the law returns true; each argument reads behind the call as it read before'; 0 by the template 'total and deterministic' (their statements: YtccjnjhlnpgocaaTotals.lean).
  GIVEN WITH THE SEED: the statements are not yours to turn. If you find one false, say at which input.
  Laid BY PROGRAM, IN A SANDBOX (cutbox-rows.mjs): the forced cells as the released guide's own fill.sh prints them over the translation 0c70818d6a44ba0f… (all of the seat's roots in one cut). By AI agents, Wed Nov 11 2026. No macro, syntax, notation, axiom, sorry.
-/
import Derived.Test.YtccjnjhlnpgocaaChecked
import GoSem.Claim
import GoSem.ClaimJoined
import GoSem.ClaimMapViews
import Derived.JoinedTies
import Derived.KernelRfl
namespace Go.Proofs.Ytccjnjhlnpgocaa
/- THE CELL 'sum', in the pinned program and in every row, IS THE sha256 OF THE DUMP (.gsa) THAT YtccjnjhlnpgocaaProg.lean LOADS. Nothing in Lean hashes anything: it is a label: what it is worth is what the hold of that sum in a sandbox is worth. -/
noncomputable def Try.pinned : Pinned := { name := "ytccjnjhlnpgocaa", sum := "0c70818d6a44ba0fed30872937ee831bdaea92b4158782925d6210c0c954c3a5", checked := Try.checked }
namespace Rows
def none {H : Type} : Left H := { results := [], args := [] }

/-- 'pairworkslaw06.ChartReads': WHATEVER THE INPUT: true; the input reads as it did. -/
def chartReadsSpec : ChangeSpec := { name := "chartReads", fn := fun _ => fun
  | [d1, d2, d3] => { results := [.lit (.bool true)], args := [d1, d2, d3] }
  | _ => none }
def chartReadsRow : OpenClaim := { program := "ytccjnjhlnpgocaa", sum := "0c70818d6a44ba0fed30872937ee831bdaea92b4158782925d6210c0c954c3a5", func := "pairworks/pairworkslaw06.ChartReads", spec := "chartReads", unfollowed := true, recurses := true, apart := false }
def ChartReadsSaid : Prop := chartReadsRow.holds Try.pinned (OpenSpec.ofChange chartReadsSpec)

/-- ITS FALSE NEIGHBOUR: 'it returns false'. Refute it at one input. -/
def chartReadsWrong : ChangeSpec := { name := "chartReads", fn := fun _ => fun
  | [d1, d2, d3] => { results := [.lit (.bool false)], args := [d1, d2, d3] }
  | _ => none }
def ChartReadsWrongFalsely : Prop := chartReadsRow.holds Try.pinned (OpenSpec.ofChange chartReadsWrong)

/-- 'pairworkslaw06.ChartWrong': WHATEVER THE INPUT: true; the input reads as it did. -/
def chartWrongSpec : ChangeSpec := { name := "chartWrong", fn := fun _ => fun
  | [d] => { results := [.lit (.bool true)], args := [d] }
  | _ => none }
def chartWrongRow : OpenClaim := { program := "ytccjnjhlnpgocaa", sum := "0c70818d6a44ba0fed30872937ee831bdaea92b4158782925d6210c0c954c3a5", func := "pairworks/pairworkslaw06.ChartWrong", spec := "chartWrong", unfollowed := true, recurses := true, apart := false }
def ChartWrongSaid : Prop := chartWrongRow.holds Try.pinned (OpenSpec.ofChange chartWrongSpec)

/-- ITS FALSE NEIGHBOUR: 'it returns false'. Refute it at one input. -/
def chartWrongWrong : ChangeSpec := { name := "chartWrong", fn := fun _ => fun
  | [d] => { results := [.lit (.bool false)], args := [d] }
  | _ => none }
def ChartWrongWrongFalsely : Prop := chartWrongRow.holds Try.pinned (OpenSpec.ofChange chartWrongWrong)

/-- 'pairworkslaw06.ChartTrue': WHATEVER THE INPUT: true; the input reads as it did. -/
def chartTrueSpec : ChangeSpec := { name := "chartTrue", fn := fun _ => fun
  | [d1, d2] => { results := [.lit (.bool true)], args := [d1, d2] }
  | _ => none }
def chartTrueRow : OpenClaim := { program := "ytccjnjhlnpgocaa", sum := "0c70818d6a44ba0fed30872937ee831bdaea92b4158782925d6210c0c954c3a5", func := "pairworks/pairworkslaw06.ChartTrue", spec := "chartTrue", unfollowed := true, recurses := true, apart := false }
def ChartTrueSaid : Prop := chartTrueRow.holds Try.pinned (OpenSpec.ofChange chartTrueSpec)

/-- ITS FALSE NEIGHBOUR: 'it returns false'. Refute it at one input. -/
def chartTrueWrong : ChangeSpec := { name := "chartTrue", fn := fun _ => fun
  | [d1, d2] => { results := [.lit (.bool false)], args := [d1, d2] }
  | _ => none }
def ChartTrueWrongFalsely : Prop := chartTrueRow.holds Try.pinned (OpenSpec.ofChange chartTrueWrong)

/-- 'pairworkslaw06.ChartEnds': WHATEVER THE INPUT: true; the input reads as it did. -/
def chartEndsSpec : ChangeSpec := { name := "chartEnds", fn := fun _ => fun
  | [d1, d2, d3, d4] => { results := [.lit (.bool true)], args := [d1, d2, d3, d4] }
  | _ => none }
def chartEndsRow : OpenClaim := { program := "ytccjnjhlnpgocaa", sum := "0c70818d6a44ba0fed30872937ee831bdaea92b4158782925d6210c0c954c3a5", func := "pairworks/pairworkslaw06.ChartEnds", spec := "chartEnds", unfollowed := true, recurses := true, apart := false }
def ChartEndsSaid : Prop := chartEndsRow.holds Try.pinned (OpenSpec.ofChange chartEndsSpec)

/-- ITS FALSE NEIGHBOUR: 'it returns false'. Refute it at one input. -/
def chartEndsWrong : ChangeSpec := { name := "chartEnds", fn := fun _ => fun
  | [d1, d2, d3, d4] => { results := [.lit (.bool false)], args := [d1, d2, d3, d4] }
  | _ => none }
def ChartEndsWrongFalsely : Prop := chartEndsRow.holds Try.pinned (OpenSpec.ofChange chartEndsWrong)

/-- 'pairworkslaw06.ChartDraw': WHATEVER THE INPUT: true; the input reads as it did. -/
def chartDrawSpec : ChangeSpec := { name := "chartDraw", fn := fun _ => fun
  | [d] => { results := [.lit (.bool true)], args := [d] }
  | _ => none }
def chartDrawRow : OpenClaim := { program := "ytccjnjhlnpgocaa", sum := "0c70818d6a44ba0fed30872937ee831bdaea92b4158782925d6210c0c954c3a5", func := "pairworks/pairworkslaw06.ChartDraw", spec := "chartDraw", unfollowed := true, recurses := true, apart := false }
def ChartDrawSaid : Prop := chartDrawRow.holds Try.pinned (OpenSpec.ofChange chartDrawSpec)

/-- ITS FALSE NEIGHBOUR: 'it returns false'. Refute it at one input. -/
def chartDrawWrong : ChangeSpec := { name := "chartDraw", fn := fun _ => fun
  | [d] => { results := [.lit (.bool false)], args := [d] }
  | _ => none }
def ChartDrawWrongFalsely : Prop := chartDrawRow.holds Try.pinned (OpenSpec.ofChange chartDrawWrong)

/-- 'pairworkslaw06.ChartWhy': WHATEVER THE INPUT: true; the input reads as it did. -/
def chartWhySpec : ChangeSpec := { name := "chartWhy", fn := fun _ => fun
  | [d1, d2] => { results := [.lit (.bool true)], args := [d1, d2] }
  | _ => none }
def chartWhyRow : OpenClaim := { program := "ytccjnjhlnpgocaa", sum := "0c70818d6a44ba0fed30872937ee831bdaea92b4158782925d6210c0c954c3a5", func := "pairworks/pairworkslaw06.ChartWhy", spec := "chartWhy", unfollowed := true, recurses := true, apart := false }
def ChartWhySaid : Prop := chartWhyRow.holds Try.pinned (OpenSpec.ofChange chartWhySpec)

/-- ITS FALSE NEIGHBOUR: 'it returns false'. Refute it at one input. -/
def chartWhyWrong : ChangeSpec := { name := "chartWhy", fn := fun _ => fun
  | [d1, d2] => { results := [.lit (.bool false)], args := [d1, d2] }
  | _ => none }
def ChartWhyWrongFalsely : Prop := chartWhyRow.holds Try.pinned (OpenSpec.ofChange chartWhyWrong)

/-- 'pairworkslaw06.ChartDrop': WHATEVER THE INPUT: true; the input reads as it did. -/
def chartDropSpec : ChangeSpec := { name := "chartDrop", fn := fun _ => fun
  | [d1, d2] => { results := [.lit (.bool true)], args := [d1, d2] }
  | _ => none }
def chartDropRow : OpenClaim := { program := "ytccjnjhlnpgocaa", sum := "0c70818d6a44ba0fed30872937ee831bdaea92b4158782925d6210c0c954c3a5", func := "pairworks/pairworkslaw06.ChartDrop", spec := "chartDrop", unfollowed := true, recurses := true, apart := false }
def ChartDropSaid : Prop := chartDropRow.holds Try.pinned (OpenSpec.ofChange chartDropSpec)

/-- ITS FALSE NEIGHBOUR: 'it returns false'. Refute it at one input. -/
def chartDropWrong : ChangeSpec := { name := "chartDrop", fn := fun _ => fun
  | [d1, d2] => { results := [.lit (.bool false)], args := [d1, d2] }
  | _ => none }
def ChartDropWrongFalsely : Prop := chartDropRow.holds Try.pinned (OpenSpec.ofChange chartDropWrong)

/-- 'pairworkslaw06.ChartIdle': WHATEVER THE INPUT: true; the input reads as it did. -/
def chartIdleSpec : ChangeSpec := { name := "chartIdle", fn := fun _ => fun
  | [d1, d2, d3] => { results := [.lit (.bool true)], args := [d1, d2, d3] }
  | _ => none }
def chartIdleRow : OpenClaim := { program := "ytccjnjhlnpgocaa", sum := "0c70818d6a44ba0fed30872937ee831bdaea92b4158782925d6210c0c954c3a5", func := "pairworks/pairworkslaw06.ChartIdle", spec := "chartIdle", unfollowed := true, recurses := true, apart := false }
def ChartIdleSaid : Prop := chartIdleRow.holds Try.pinned (OpenSpec.ofChange chartIdleSpec)

/-- ITS FALSE NEIGHBOUR: 'it returns false'. Refute it at one input. -/
def chartIdleWrong : ChangeSpec := { name := "chartIdle", fn := fun _ => fun
  | [d1, d2, d3] => { results := [.lit (.bool false)], args := [d1, d2, d3] }
  | _ => none }
def ChartIdleWrongFalsely : Prop := chartIdleRow.holds Try.pinned (OpenSpec.ofChange chartIdleWrong)

/-- 'pairworkslaw06.ChartMore': WHATEVER THE INPUT: true; the input reads as it did. -/
def chartMoreSpec : ChangeSpec := { name := "chartMore", fn := fun _ => fun
  | [d1, d2, d3, d4, d5] => { results := [.lit (.bool true)], args := [d1, d2, d3, d4, d5] }
  | _ => none }
def chartMoreRow : OpenClaim := { program := "ytccjnjhlnpgocaa", sum := "0c70818d6a44ba0fed30872937ee831bdaea92b4158782925d6210c0c954c3a5", func := "pairworks/pairworkslaw06.ChartMore", spec := "chartMore", unfollowed := true, recurses := true, apart := false }
def ChartMoreSaid : Prop := chartMoreRow.holds Try.pinned (OpenSpec.ofChange chartMoreSpec)

/-- ITS FALSE NEIGHBOUR: 'it returns false'. Refute it at one input. -/
def chartMoreWrong : ChangeSpec := { name := "chartMore", fn := fun _ => fun
  | [d1, d2, d3, d4, d5] => { results := [.lit (.bool false)], args := [d1, d2, d3, d4, d5] }
  | _ => none }
def ChartMoreWrongFalsely : Prop := chartMoreRow.holds Try.pinned (OpenSpec.ofChange chartMoreWrong)

/-- 'pairworkslaw06.ChartTurned': WHATEVER THE INPUT: true; the input reads as it did. -/
def chartTurnedSpec : ChangeSpec := { name := "chartTurned", fn := fun _ => fun
  | [d1, d2, d3, d4] => { results := [.lit (.bool true)], args := [d1, d2, d3, d4] }
  | _ => none }
def chartTurnedRow : OpenClaim := { program := "ytccjnjhlnpgocaa", sum := "0c70818d6a44ba0fed30872937ee831bdaea92b4158782925d6210c0c954c3a5", func := "pairworks/pairworkslaw06.ChartTurned", spec := "chartTurned", unfollowed := true, recurses := true, apart := false }
def ChartTurnedSaid : Prop := chartTurnedRow.holds Try.pinned (OpenSpec.ofChange chartTurnedSpec)

/-- ITS FALSE NEIGHBOUR: 'it returns false'. Refute it at one input. -/
def chartTurnedWrong : ChangeSpec := { name := "chartTurned", fn := fun _ => fun
  | [d1, d2, d3, d4] => { results := [.lit (.bool false)], args := [d1, d2, d3, d4] }
  | _ => none }
def ChartTurnedWrongFalsely : Prop := chartTurnedRow.holds Try.pinned (OpenSpec.ofChange chartTurnedWrong)

/- THE SECOND FORM. 'bulk': how many values and letters a reading holds, each counted each time it is reached (what is shared counts as often as it is met; a slice's spare places count too). A statement '..UptoSaid' is the law's where the arguments, and the package variables that the reading takes, are together of bulk at most 1048576: NARROWER than '..Said'. Prove '..Said' where nothing that the law and all that it calls make is longer than what came in: it says more and counts as full. Else prove '..UptoSaid'. A law counts once. -/
mutual
def uptoBulk {H : Type} : DataW H → Nat
  | .lit (.string bytes) => bytes.length + 1
  | .lit _ => 1
  | .nil => 1
  | .ptr d => uptoBulk d + 1
  | .slice elems spare => uptoBulkAll elems + uptoBulkAll spare + 1
  | .agg parts => uptoBulkAll parts + 1
  | .iface _ d => uptoBulk d + 1
  | .map entries => uptoBulkEntries entries + 1
  | .held _ => 1
def uptoBulkAll {H : Type} : List (DataW H) → Nat
  | [] => 0
  | d :: r => uptoBulk d + uptoBulkAll r
def uptoBulkEntries {H : Type} : List (Lit × DataW H) → Nat
  | [] => 0
  | x :: r => uptoBulkEntry x + uptoBulkEntries r
def uptoBulkEntry {H : Type} : Lit × DataW H → Nat
  | (.string bytes, d) => bytes.length + uptoBulk d + 1
  | (_, d) => uptoBulk d + 1
 end
def uptoSmall : (H : Type) → List (DataW H) → Bool := fun _ ds => decide (uptoBulkAll ds ≤ 1048576)
def OpenSpec.upto (s : _root_.Go.ChangeSpec) : _root_.Go.OpenSpec := { _root_.Go.OpenSpec.ofChange s with cond := some uptoSmall }

/-- 'pairworkslaw06.ChartReads', WHERE WHAT IT READS IS OF BULK AT MOST 1048576: true; the input reads as it did. -/
def chartReadsUptoRow : OpenClaim := { program := "ytccjnjhlnpgocaa", sum := "0c70818d6a44ba0fed30872937ee831bdaea92b4158782925d6210c0c954c3a5", func := "pairworks/pairworkslaw06.ChartReads", spec := "chartReads", unfollowed := true, recurses := true, apart := false, narrowed := true }
def ChartReadsUptoSaid : Prop := chartReadsUptoRow.holds Try.pinned (OpenSpec.upto chartReadsSpec)

/-- 'pairworkslaw06.ChartWrong', WHERE WHAT IT READS IS OF BULK AT MOST 1048576: true; the input reads as it did. -/
def chartWrongUptoRow : OpenClaim := { program := "ytccjnjhlnpgocaa", sum := "0c70818d6a44ba0fed30872937ee831bdaea92b4158782925d6210c0c954c3a5", func := "pairworks/pairworkslaw06.ChartWrong", spec := "chartWrong", unfollowed := true, recurses := true, apart := false, narrowed := true }
def ChartWrongUptoSaid : Prop := chartWrongUptoRow.holds Try.pinned (OpenSpec.upto chartWrongSpec)

/-- 'pairworkslaw06.ChartTrue', WHERE WHAT IT READS IS OF BULK AT MOST 1048576: true; the input reads as it did. -/
def chartTrueUptoRow : OpenClaim := { program := "ytccjnjhlnpgocaa", sum := "0c70818d6a44ba0fed30872937ee831bdaea92b4158782925d6210c0c954c3a5", func := "pairworks/pairworkslaw06.ChartTrue", spec := "chartTrue", unfollowed := true, recurses := true, apart := false, narrowed := true }
def ChartTrueUptoSaid : Prop := chartTrueUptoRow.holds Try.pinned (OpenSpec.upto chartTrueSpec)

/-- 'pairworkslaw06.ChartEnds', WHERE WHAT IT READS IS OF BULK AT MOST 1048576: true; the input reads as it did. -/
def chartEndsUptoRow : OpenClaim := { program := "ytccjnjhlnpgocaa", sum := "0c70818d6a44ba0fed30872937ee831bdaea92b4158782925d6210c0c954c3a5", func := "pairworks/pairworkslaw06.ChartEnds", spec := "chartEnds", unfollowed := true, recurses := true, apart := false, narrowed := true }
def ChartEndsUptoSaid : Prop := chartEndsUptoRow.holds Try.pinned (OpenSpec.upto chartEndsSpec)

/-- 'pairworkslaw06.ChartDraw', WHERE WHAT IT READS IS OF BULK AT MOST 1048576: true; the input reads as it did. -/
def chartDrawUptoRow : OpenClaim := { program := "ytccjnjhlnpgocaa", sum := "0c70818d6a44ba0fed30872937ee831bdaea92b4158782925d6210c0c954c3a5", func := "pairworks/pairworkslaw06.ChartDraw", spec := "chartDraw", unfollowed := true, recurses := true, apart := false, narrowed := true }
def ChartDrawUptoSaid : Prop := chartDrawUptoRow.holds Try.pinned (OpenSpec.upto chartDrawSpec)

/-- 'pairworkslaw06.ChartWhy', WHERE WHAT IT READS IS OF BULK AT MOST 1048576: true; the input reads as it did. -/
def chartWhyUptoRow : OpenClaim := { program := "ytccjnjhlnpgocaa", sum := "0c70818d6a44ba0fed30872937ee831bdaea92b4158782925d6210c0c954c3a5", func := "pairworks/pairworkslaw06.ChartWhy", spec := "chartWhy", unfollowed := true, recurses := true, apart := false, narrowed := true }
def ChartWhyUptoSaid : Prop := chartWhyUptoRow.holds Try.pinned (OpenSpec.upto chartWhySpec)

/-- 'pairworkslaw06.ChartDrop', WHERE WHAT IT READS IS OF BULK AT MOST 1048576: true; the input reads as it did. -/
def chartDropUptoRow : OpenClaim := { program := "ytccjnjhlnpgocaa", sum := "0c70818d6a44ba0fed30872937ee831bdaea92b4158782925d6210c0c954c3a5", func := "pairworks/pairworkslaw06.ChartDrop", spec := "chartDrop", unfollowed := true, recurses := true, apart := false, narrowed := true }
def ChartDropUptoSaid : Prop := chartDropUptoRow.holds Try.pinned (OpenSpec.upto chartDropSpec)

/-- 'pairworkslaw06.ChartIdle', WHERE WHAT IT READS IS OF BULK AT MOST 1048576: true; the input reads as it did. -/
def chartIdleUptoRow : OpenClaim := { program := "ytccjnjhlnpgocaa", sum := "0c70818d6a44ba0fed30872937ee831bdaea92b4158782925d6210c0c954c3a5", func := "pairworks/pairworkslaw06.ChartIdle", spec := "chartIdle", unfollowed := true, recurses := true, apart := false, narrowed := true }
def ChartIdleUptoSaid : Prop := chartIdleUptoRow.holds Try.pinned (OpenSpec.upto chartIdleSpec)

/-- 'pairworkslaw06.ChartMore', WHERE WHAT IT READS IS OF BULK AT MOST 1048576: true; the input reads as it did. -/
def chartMoreUptoRow : OpenClaim := { program := "ytccjnjhlnpgocaa", sum := "0c70818d6a44ba0fed30872937ee831bdaea92b4158782925d6210c0c954c3a5", func := "pairworks/pairworkslaw06.ChartMore", spec := "chartMore", unfollowed := true, recurses := true, apart := false, narrowed := true }
def ChartMoreUptoSaid : Prop := chartMoreUptoRow.holds Try.pinned (OpenSpec.upto chartMoreSpec)

/-- 'pairworkslaw06.ChartTurned', WHERE WHAT IT READS IS OF BULK AT MOST 1048576: true; the input reads as it did. -/
def chartTurnedUptoRow : OpenClaim := { program := "ytccjnjhlnpgocaa", sum := "0c70818d6a44ba0fed30872937ee831bdaea92b4158782925d6210c0c954c3a5", func := "pairworks/pairworkslaw06.ChartTurned", spec := "chartTurned", unfollowed := true, recurses := true, apart := false, narrowed := true }
def ChartTurnedUptoSaid : Prop := chartTurnedUptoRow.holds Try.pinned (OpenSpec.upto chartTurnedSpec)

end Rows
end Go.Proofs.Ytccjnjhlnpgocaa
