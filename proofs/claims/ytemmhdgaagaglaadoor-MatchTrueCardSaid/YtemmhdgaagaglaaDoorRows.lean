/-
  NARROWER THAN 'FOR EVERY INPUT', by the rows' own cells (each row's printed sentence says how): MatchCounts: laid · MatchAsks: laid · MatchFewest: laid · MatchAsk: laid · MatchMore: laid · MatchSets: laid · MatchNames: laid · MatchTrue: laid · MatchSure: laid · MatchTurned: laid.
  DERIVED. THE GIVEN ROWS OF THIS SEAT. 10 by the template 'for every input the law returns true; each argument reads behind the call as it read before'; 0 by the template 'total and deterministic' (their statements: YtemmhdgaagaglaaDoorTotals.lean).
  GIVEN WITH THE SEED: the statements are not yours to turn. If you find one false, say at which input.
  Laid BY PROGRAM, IN A SANDBOX (cutbox-rows.mjs): the forced cells as the released guide's own fill.sh prints them over the translation f23c1da06af82416… (all of the seat's roots in one cut). By AI agents, Wed Nov 11 2026. No macro, syntax, notation, axiom, sorry.
-/
import Derived.Test.YtemmhdgaagaglaaDoorChecked
import GoSem.Claim
import GoSem.ClaimJoined
import GoSem.ClaimMapViews
import Derived.JoinedTies
import Derived.KernelRfl
namespace Go.Proofs.YtemmhdgaagaglaaDoor
/- THE CELL 'sum', in the pinned program and in every row, IS THE sha256 OF THE DUMP (.gsa) THAT YtemmhdgaagaglaaDoorProg.lean LOADS. Nothing in Lean hashes anything: it is a label: what it is worth is what the hold of that sum in a sandbox is worth. -/
noncomputable def Tryd.pinned : Pinned := { name := "ytemmhdgaagaglaadoor", sum := "f23c1da06af824166493b8e65d6e54538ec8121f0be7427844de964a731afc84", checked := Tryd.checked }
namespace Rows
def none {H : Type} : Left H := { results := [], args := [] }

/- WHAT THE LISTED PACKAGE-LEVEL VARIABLES READ AS WHEN THE CALL BEGINS. Each datum BY PROGRAM (the guide's laid-datum.mjs) off the statement by which the dump's own 'gosem.cut.vars' lays the variable. In a bare row this is a premise. The card (YtemmhdgaagaglaaDoorCards.lean) ties it to the program's text. -/
def laid_math_bits_deBruijn32tab {H : Type} : DataW H := .agg [.lit (.int .u8 0), .lit (.int .u8 1), .lit (.int .u8 28), .lit (.int .u8 2), .lit (.int .u8 29), .lit (.int .u8 14), .lit (.int .u8 24), .lit (.int .u8 3), .lit (.int .u8 30), .lit (.int .u8 22), .lit (.int .u8 20), .lit (.int .u8 15), .lit (.int .u8 25), .lit (.int .u8 17), .lit (.int .u8 4), .lit (.int .u8 8), .lit (.int .u8 31), .lit (.int .u8 27), .lit (.int .u8 13), .lit (.int .u8 23), .lit (.int .u8 21), .lit (.int .u8 19), .lit (.int .u8 16), .lit (.int .u8 7), .lit (.int .u8 26), .lit (.int .u8 12), .lit (.int .u8 18), .lit (.int .u8 6), .lit (.int .u8 11), .lit (.int .u8 5), .lit (.int .u8 10), .lit (.int .u8 9)]
def laid_math_bits_deBruijn64tab {H : Type} : DataW H := .agg [.lit (.int .u8 0), .lit (.int .u8 1), .lit (.int .u8 56), .lit (.int .u8 2), .lit (.int .u8 57), .lit (.int .u8 49), .lit (.int .u8 28), .lit (.int .u8 3), .lit (.int .u8 61), .lit (.int .u8 58), .lit (.int .u8 42), .lit (.int .u8 50), .lit (.int .u8 38), .lit (.int .u8 29), .lit (.int .u8 17), .lit (.int .u8 4), .lit (.int .u8 62), .lit (.int .u8 47), .lit (.int .u8 59), .lit (.int .u8 36), .lit (.int .u8 45), .lit (.int .u8 43), .lit (.int .u8 51), .lit (.int .u8 22), .lit (.int .u8 53), .lit (.int .u8 39), .lit (.int .u8 33), .lit (.int .u8 30), .lit (.int .u8 24), .lit (.int .u8 18), .lit (.int .u8 12), .lit (.int .u8 5), .lit (.int .u8 63), .lit (.int .u8 55), .lit (.int .u8 48), .lit (.int .u8 27), .lit (.int .u8 60), .lit (.int .u8 41), .lit (.int .u8 37), .lit (.int .u8 16), .lit (.int .u8 46), .lit (.int .u8 35), .lit (.int .u8 44), .lit (.int .u8 21), .lit (.int .u8 52), .lit (.int .u8 32), .lit (.int .u8 23), .lit (.int .u8 11), .lit (.int .u8 54), .lit (.int .u8 26), .lit (.int .u8 40), .lit (.int .u8 15), .lit (.int .u8 34), .lit (.int .u8 20), .lit (.int .u8 31), .lit (.int .u8 10), .lit (.int .u8 25), .lit (.int .u8 14), .lit (.int .u8 19), .lit (.int .u8 9), .lit (.int .u8 13), .lit (.int .u8 8), .lit (.int .u8 7), .lit (.int .u8 6)]

/-- 'pairworkslaw02.MatchCounts': WHATEVER THE INPUT: true; the input reads as it did. -/
def matchCountsSpec : ChangeSpec := { name := "matchCounts", fn := fun _ => fun
  | [d1, d2, d3] => { results := [.lit (.bool true)], args := [d1, d2, d3] }
  | _ => none }
def matchCountsRow : OpenClaim := { program := "ytemmhdgaagaglaadoor", sum := "f23c1da06af824166493b8e65d6e54538ec8121f0be7427844de964a731afc84", func := "pairworks/pairworkslaw02.MatchCounts", spec := "matchCounts", unfollowed := true, recurses := true, named := ["math/bits.deBruijn32tab", "math/bits.deBruijn64tab"], plainKeys := false, apart := false, laid := [("math/bits.deBruijn32tab", laid_math_bits_deBruijn32tab), ("math/bits.deBruijn64tab", laid_math_bits_deBruijn64tab)] }
def MatchCountsSaid : Prop := matchCountsRow.holds Tryd.pinned (OpenSpec.ofChange matchCountsSpec)

/-- ITS FALSE NEIGHBOUR: 'it returns false'. Refute it at one input. -/
def matchCountsWrong : ChangeSpec := { name := "matchCounts", fn := fun _ => fun
  | [d1, d2, d3] => { results := [.lit (.bool false)], args := [d1, d2, d3] }
  | _ => none }
def MatchCountsWrongFalsely : Prop := matchCountsRow.holds Tryd.pinned (OpenSpec.ofChange matchCountsWrong)

/-- 'pairworkslaw02.MatchAsks': WHATEVER THE INPUT: true; the input reads as it did. -/
def matchAsksSpec : ChangeSpec := { name := "matchAsks", fn := fun _ => fun
  | [d1, d2] => { results := [.lit (.bool true)], args := [d1, d2] }
  | _ => none }
def matchAsksRow : OpenClaim := { program := "ytemmhdgaagaglaadoor", sum := "f23c1da06af824166493b8e65d6e54538ec8121f0be7427844de964a731afc84", func := "pairworks/pairworkslaw02.MatchAsks", spec := "matchAsks", unfollowed := true, recurses := true, named := ["math/bits.deBruijn32tab", "math/bits.deBruijn64tab"], plainKeys := false, apart := false, laid := [("math/bits.deBruijn32tab", laid_math_bits_deBruijn32tab), ("math/bits.deBruijn64tab", laid_math_bits_deBruijn64tab)] }
def MatchAsksSaid : Prop := matchAsksRow.holds Tryd.pinned (OpenSpec.ofChange matchAsksSpec)

/-- ITS FALSE NEIGHBOUR: 'it returns false'. Refute it at one input. -/
def matchAsksWrong : ChangeSpec := { name := "matchAsks", fn := fun _ => fun
  | [d1, d2] => { results := [.lit (.bool false)], args := [d1, d2] }
  | _ => none }
def MatchAsksWrongFalsely : Prop := matchAsksRow.holds Tryd.pinned (OpenSpec.ofChange matchAsksWrong)

/-- 'pairworkslaw02.MatchFewest': WHATEVER THE INPUT: true; the input reads as it did. -/
def matchFewestSpec : ChangeSpec := { name := "matchFewest", fn := fun _ => fun
  | [d1, d2] => { results := [.lit (.bool true)], args := [d1, d2] }
  | _ => none }
def matchFewestRow : OpenClaim := { program := "ytemmhdgaagaglaadoor", sum := "f23c1da06af824166493b8e65d6e54538ec8121f0be7427844de964a731afc84", func := "pairworks/pairworkslaw02.MatchFewest", spec := "matchFewest", unfollowed := true, recurses := true, named := ["math/bits.deBruijn32tab", "math/bits.deBruijn64tab"], plainKeys := false, apart := false, laid := [("math/bits.deBruijn32tab", laid_math_bits_deBruijn32tab), ("math/bits.deBruijn64tab", laid_math_bits_deBruijn64tab)] }
def MatchFewestSaid : Prop := matchFewestRow.holds Tryd.pinned (OpenSpec.ofChange matchFewestSpec)

/-- ITS FALSE NEIGHBOUR: 'it returns false'. Refute it at one input. -/
def matchFewestWrong : ChangeSpec := { name := "matchFewest", fn := fun _ => fun
  | [d1, d2] => { results := [.lit (.bool false)], args := [d1, d2] }
  | _ => none }
def MatchFewestWrongFalsely : Prop := matchFewestRow.holds Tryd.pinned (OpenSpec.ofChange matchFewestWrong)

/-- 'pairworkslaw02.MatchAsk': WHATEVER THE INPUT: true; the input reads as it did. -/
def matchAskSpec : ChangeSpec := { name := "matchAsk", fn := fun _ => fun
  | [d1, d2] => { results := [.lit (.bool true)], args := [d1, d2] }
  | _ => none }
def matchAskRow : OpenClaim := { program := "ytemmhdgaagaglaadoor", sum := "f23c1da06af824166493b8e65d6e54538ec8121f0be7427844de964a731afc84", func := "pairworks/pairworkslaw02.MatchAsk", spec := "matchAsk", unfollowed := true, recurses := true, named := ["math/bits.deBruijn32tab", "math/bits.deBruijn64tab"], plainKeys := false, apart := false, laid := [("math/bits.deBruijn32tab", laid_math_bits_deBruijn32tab), ("math/bits.deBruijn64tab", laid_math_bits_deBruijn64tab)] }
def MatchAskSaid : Prop := matchAskRow.holds Tryd.pinned (OpenSpec.ofChange matchAskSpec)

/-- ITS FALSE NEIGHBOUR: 'it returns false'. Refute it at one input. -/
def matchAskWrong : ChangeSpec := { name := "matchAsk", fn := fun _ => fun
  | [d1, d2] => { results := [.lit (.bool false)], args := [d1, d2] }
  | _ => none }
def MatchAskWrongFalsely : Prop := matchAskRow.holds Tryd.pinned (OpenSpec.ofChange matchAskWrong)

/-- 'pairworkslaw02.MatchMore': WHATEVER THE INPUT: true; the input reads as it did. -/
def matchMoreSpec : ChangeSpec := { name := "matchMore", fn := fun _ => fun
  | [d1, d2, d3] => { results := [.lit (.bool true)], args := [d1, d2, d3] }
  | _ => none }
def matchMoreRow : OpenClaim := { program := "ytemmhdgaagaglaadoor", sum := "f23c1da06af824166493b8e65d6e54538ec8121f0be7427844de964a731afc84", func := "pairworks/pairworkslaw02.MatchMore", spec := "matchMore", unfollowed := true, recurses := true, named := ["math/bits.deBruijn32tab", "math/bits.deBruijn64tab"], plainKeys := false, apart := false, laid := [("math/bits.deBruijn32tab", laid_math_bits_deBruijn32tab), ("math/bits.deBruijn64tab", laid_math_bits_deBruijn64tab)] }
def MatchMoreSaid : Prop := matchMoreRow.holds Tryd.pinned (OpenSpec.ofChange matchMoreSpec)

/-- ITS FALSE NEIGHBOUR: 'it returns false'. Refute it at one input. -/
def matchMoreWrong : ChangeSpec := { name := "matchMore", fn := fun _ => fun
  | [d1, d2, d3] => { results := [.lit (.bool false)], args := [d1, d2, d3] }
  | _ => none }
def MatchMoreWrongFalsely : Prop := matchMoreRow.holds Tryd.pinned (OpenSpec.ofChange matchMoreWrong)

/-- 'pairworkslaw02.MatchSets': WHATEVER THE INPUT: true; the input reads as it did. -/
def matchSetsSpec : ChangeSpec := { name := "matchSets", fn := fun _ => fun
  | [d] => { results := [.lit (.bool true)], args := [d] }
  | _ => none }
def matchSetsRow : OpenClaim := { program := "ytemmhdgaagaglaadoor", sum := "f23c1da06af824166493b8e65d6e54538ec8121f0be7427844de964a731afc84", func := "pairworks/pairworkslaw02.MatchSets", spec := "matchSets", unfollowed := true, recurses := true, named := ["math/bits.deBruijn32tab", "math/bits.deBruijn64tab"], plainKeys := false, apart := false, laid := [("math/bits.deBruijn32tab", laid_math_bits_deBruijn32tab), ("math/bits.deBruijn64tab", laid_math_bits_deBruijn64tab)] }
def MatchSetsSaid : Prop := matchSetsRow.holds Tryd.pinned (OpenSpec.ofChange matchSetsSpec)

/-- ITS FALSE NEIGHBOUR: 'it returns false'. Refute it at one input. -/
def matchSetsWrong : ChangeSpec := { name := "matchSets", fn := fun _ => fun
  | [d] => { results := [.lit (.bool false)], args := [d] }
  | _ => none }
def MatchSetsWrongFalsely : Prop := matchSetsRow.holds Tryd.pinned (OpenSpec.ofChange matchSetsWrong)

/-- 'pairworkslaw02.MatchNames': WHATEVER THE INPUT: true; the input reads as it did. -/
def matchNamesSpec : ChangeSpec := { name := "matchNames", fn := fun _ => fun
  | [] => { results := [.lit (.bool true)], args := [] }
  | _ => none }
def matchNamesRow : OpenClaim := { program := "ytemmhdgaagaglaadoor", sum := "f23c1da06af824166493b8e65d6e54538ec8121f0be7427844de964a731afc84", func := "pairworks/pairworkslaw02.MatchNames", spec := "matchNames", unfollowed := true, recurses := true, named := ["math/bits.deBruijn32tab", "math/bits.deBruijn64tab"], plainKeys := false, apart := false, laid := [("math/bits.deBruijn32tab", laid_math_bits_deBruijn32tab), ("math/bits.deBruijn64tab", laid_math_bits_deBruijn64tab)] }
def MatchNamesSaid : Prop := matchNamesRow.holds Tryd.pinned (OpenSpec.ofChange matchNamesSpec)

/-- ITS FALSE NEIGHBOUR: 'it returns false'. Refute it at one input. -/
def matchNamesWrong : ChangeSpec := { name := "matchNames", fn := fun _ => fun
  | [] => { results := [.lit (.bool false)], args := [] }
  | _ => none }
def MatchNamesWrongFalsely : Prop := matchNamesRow.holds Tryd.pinned (OpenSpec.ofChange matchNamesWrong)

/-- 'pairworkslaw02.MatchTrue': WHATEVER THE INPUT: true; the input reads as it did. -/
def matchTrueSpec : ChangeSpec := { name := "matchTrue", fn := fun _ => fun
  | [d] => { results := [.lit (.bool true)], args := [d] }
  | _ => none }
def matchTrueRow : OpenClaim := { program := "ytemmhdgaagaglaadoor", sum := "f23c1da06af824166493b8e65d6e54538ec8121f0be7427844de964a731afc84", func := "pairworks/pairworkslaw02.MatchTrue", spec := "matchTrue", unfollowed := true, recurses := true, named := ["math/bits.deBruijn32tab", "math/bits.deBruijn64tab"], plainKeys := false, apart := false, laid := [("math/bits.deBruijn32tab", laid_math_bits_deBruijn32tab), ("math/bits.deBruijn64tab", laid_math_bits_deBruijn64tab)] }
def MatchTrueSaid : Prop := matchTrueRow.holds Tryd.pinned (OpenSpec.ofChange matchTrueSpec)

/-- ITS FALSE NEIGHBOUR: 'it returns false'. Refute it at one input. -/
def matchTrueWrong : ChangeSpec := { name := "matchTrue", fn := fun _ => fun
  | [d] => { results := [.lit (.bool false)], args := [d] }
  | _ => none }
def MatchTrueWrongFalsely : Prop := matchTrueRow.holds Tryd.pinned (OpenSpec.ofChange matchTrueWrong)

/-- 'pairworkslaw02.MatchSure': WHATEVER THE INPUT: true; the input reads as it did. -/
def matchSureSpec : ChangeSpec := { name := "matchSure", fn := fun _ => fun
  | [d] => { results := [.lit (.bool true)], args := [d] }
  | _ => none }
def matchSureRow : OpenClaim := { program := "ytemmhdgaagaglaadoor", sum := "f23c1da06af824166493b8e65d6e54538ec8121f0be7427844de964a731afc84", func := "pairworks/pairworkslaw02.MatchSure", spec := "matchSure", unfollowed := true, recurses := true, named := ["math/bits.deBruijn32tab", "math/bits.deBruijn64tab"], plainKeys := false, apart := false, laid := [("math/bits.deBruijn32tab", laid_math_bits_deBruijn32tab), ("math/bits.deBruijn64tab", laid_math_bits_deBruijn64tab)] }
def MatchSureSaid : Prop := matchSureRow.holds Tryd.pinned (OpenSpec.ofChange matchSureSpec)

/-- ITS FALSE NEIGHBOUR: 'it returns false'. Refute it at one input. -/
def matchSureWrong : ChangeSpec := { name := "matchSure", fn := fun _ => fun
  | [d] => { results := [.lit (.bool false)], args := [d] }
  | _ => none }
def MatchSureWrongFalsely : Prop := matchSureRow.holds Tryd.pinned (OpenSpec.ofChange matchSureWrong)

/-- 'pairworkslaw02.MatchTurned': WHATEVER THE INPUT: true; the input reads as it did. -/
def matchTurnedSpec : ChangeSpec := { name := "matchTurned", fn := fun _ => fun
  | [d] => { results := [.lit (.bool true)], args := [d] }
  | _ => none }
def matchTurnedRow : OpenClaim := { program := "ytemmhdgaagaglaadoor", sum := "f23c1da06af824166493b8e65d6e54538ec8121f0be7427844de964a731afc84", func := "pairworks/pairworkslaw02.MatchTurned", spec := "matchTurned", unfollowed := true, recurses := true, named := ["math/bits.deBruijn32tab", "math/bits.deBruijn64tab"], plainKeys := false, apart := false, laid := [("math/bits.deBruijn32tab", laid_math_bits_deBruijn32tab), ("math/bits.deBruijn64tab", laid_math_bits_deBruijn64tab)] }
def MatchTurnedSaid : Prop := matchTurnedRow.holds Tryd.pinned (OpenSpec.ofChange matchTurnedSpec)

/-- ITS FALSE NEIGHBOUR: 'it returns false'. Refute it at one input. -/
def matchTurnedWrong : ChangeSpec := { name := "matchTurned", fn := fun _ => fun
  | [d] => { results := [.lit (.bool false)], args := [d] }
  | _ => none }
def MatchTurnedWrongFalsely : Prop := matchTurnedRow.holds Tryd.pinned (OpenSpec.ofChange matchTurnedWrong)

/- THE SECOND FORM. 'bulk': how many values and letters a reading holds, each counted each time it is reached (what is shared counts as often as it is met; a slice's spare places count too). A statement '..UptoSaid' is the law's where the arguments, and the package variables that the reading takes, are together of bulk at most 1048576: NARROWER than '..Said'. Prove '..Said' where nothing that the law and all that it calls make is longer than what came in: it says more and counts as full. Else prove '..UptoSaid'. A law counts once. -/
mutual
def uptoBulk {H : Type} : DataW H → Nat
  | .lit (.string bytes) => bytes.length + 1
  | .lit _ => 1
  | .nil => 1
  | .ptr d => uptoBulk d + 1
  | .slice elems spare => uptoBulkAll elems + uptoBulkAll spare + 1
  | .agg parts => uptoBulkAll parts + 1
  | .iface _ d => uptoBulk d + 1
  | .map entries => uptoBulkEntries entries + 1
  | .held _ => 1
def uptoBulkAll {H : Type} : List (DataW H) → Nat
  | [] => 0
  | d :: r => uptoBulk d + uptoBulkAll r
def uptoBulkEntries {H : Type} : List (Lit × DataW H) → Nat
  | [] => 0
  | x :: r => uptoBulkEntry x + uptoBulkEntries r
def uptoBulkEntry {H : Type} : Lit × DataW H → Nat
  | (.string bytes, d) => bytes.length + uptoBulk d + 1
  | (_, d) => uptoBulk d + 1
 end
def uptoSmall : (H : Type) → List (DataW H) → Bool := fun _ ds => decide (uptoBulkAll ds ≤ 1048576)
def OpenSpec.upto (s : _root_.Go.ChangeSpec) : _root_.Go.OpenSpec := { _root_.Go.OpenSpec.ofChange s with cond := some uptoSmall }

/-- 'pairworkslaw02.MatchCounts', WHERE WHAT IT READS IS OF BULK AT MOST 1048576: true; the input reads as it did. -/
def matchCountsUptoRow : OpenClaim := { program := "ytemmhdgaagaglaadoor", sum := "f23c1da06af824166493b8e65d6e54538ec8121f0be7427844de964a731afc84", func := "pairworks/pairworkslaw02.MatchCounts", spec := "matchCounts", unfollowed := true, recurses := true, named := ["math/bits.deBruijn32tab", "math/bits.deBruijn64tab"], plainKeys := false, apart := false, laid := [("math/bits.deBruijn32tab", laid_math_bits_deBruijn32tab), ("math/bits.deBruijn64tab", laid_math_bits_deBruijn64tab)], narrowed := true }
def MatchCountsUptoSaid : Prop := matchCountsUptoRow.holds Tryd.pinned (OpenSpec.upto matchCountsSpec)

/-- 'pairworkslaw02.MatchAsks', WHERE WHAT IT READS IS OF BULK AT MOST 1048576: true; the input reads as it did. -/
def matchAsksUptoRow : OpenClaim := { program := "ytemmhdgaagaglaadoor", sum := "f23c1da06af824166493b8e65d6e54538ec8121f0be7427844de964a731afc84", func := "pairworks/pairworkslaw02.MatchAsks", spec := "matchAsks", unfollowed := true, recurses := true, named := ["math/bits.deBruijn32tab", "math/bits.deBruijn64tab"], plainKeys := false, apart := false, laid := [("math/bits.deBruijn32tab", laid_math_bits_deBruijn32tab), ("math/bits.deBruijn64tab", laid_math_bits_deBruijn64tab)], narrowed := true }
def MatchAsksUptoSaid : Prop := matchAsksUptoRow.holds Tryd.pinned (OpenSpec.upto matchAsksSpec)

/-- 'pairworkslaw02.MatchFewest', WHERE WHAT IT READS IS OF BULK AT MOST 1048576: true; the input reads as it did. -/
def matchFewestUptoRow : OpenClaim := { program := "ytemmhdgaagaglaadoor", sum := "f23c1da06af824166493b8e65d6e54538ec8121f0be7427844de964a731afc84", func := "pairworks/pairworkslaw02.MatchFewest", spec := "matchFewest", unfollowed := true, recurses := true, named := ["math/bits.deBruijn32tab", "math/bits.deBruijn64tab"], plainKeys := false, apart := false, laid := [("math/bits.deBruijn32tab", laid_math_bits_deBruijn32tab), ("math/bits.deBruijn64tab", laid_math_bits_deBruijn64tab)], narrowed := true }
def MatchFewestUptoSaid : Prop := matchFewestUptoRow.holds Tryd.pinned (OpenSpec.upto matchFewestSpec)

/-- 'pairworkslaw02.MatchAsk', WHERE WHAT IT READS IS OF BULK AT MOST 1048576: true; the input reads as it did. -/
def matchAskUptoRow : OpenClaim := { program := "ytemmhdgaagaglaadoor", sum := "f23c1da06af824166493b8e65d6e54538ec8121f0be7427844de964a731afc84", func := "pairworks/pairworkslaw02.MatchAsk", spec := "matchAsk", unfollowed := true, recurses := true, named := ["math/bits.deBruijn32tab", "math/bits.deBruijn64tab"], plainKeys := false, apart := false, laid := [("math/bits.deBruijn32tab", laid_math_bits_deBruijn32tab), ("math/bits.deBruijn64tab", laid_math_bits_deBruijn64tab)], narrowed := true }
def MatchAskUptoSaid : Prop := matchAskUptoRow.holds Tryd.pinned (OpenSpec.upto matchAskSpec)

/-- 'pairworkslaw02.MatchMore', WHERE WHAT IT READS IS OF BULK AT MOST 1048576: true; the input reads as it did. -/
def matchMoreUptoRow : OpenClaim := { program := "ytemmhdgaagaglaadoor", sum := "f23c1da06af824166493b8e65d6e54538ec8121f0be7427844de964a731afc84", func := "pairworks/pairworkslaw02.MatchMore", spec := "matchMore", unfollowed := true, recurses := true, named := ["math/bits.deBruijn32tab", "math/bits.deBruijn64tab"], plainKeys := false, apart := false, laid := [("math/bits.deBruijn32tab", laid_math_bits_deBruijn32tab), ("math/bits.deBruijn64tab", laid_math_bits_deBruijn64tab)], narrowed := true }
def MatchMoreUptoSaid : Prop := matchMoreUptoRow.holds Tryd.pinned (OpenSpec.upto matchMoreSpec)

/-- 'pairworkslaw02.MatchSets', WHERE WHAT IT READS IS OF BULK AT MOST 1048576: true; the input reads as it did. -/
def matchSetsUptoRow : OpenClaim := { program := "ytemmhdgaagaglaadoor", sum := "f23c1da06af824166493b8e65d6e54538ec8121f0be7427844de964a731afc84", func := "pairworks/pairworkslaw02.MatchSets", spec := "matchSets", unfollowed := true, recurses := true, named := ["math/bits.deBruijn32tab", "math/bits.deBruijn64tab"], plainKeys := false, apart := false, laid := [("math/bits.deBruijn32tab", laid_math_bits_deBruijn32tab), ("math/bits.deBruijn64tab", laid_math_bits_deBruijn64tab)], narrowed := true }
def MatchSetsUptoSaid : Prop := matchSetsUptoRow.holds Tryd.pinned (OpenSpec.upto matchSetsSpec)

/-- 'pairworkslaw02.MatchNames', WHERE WHAT IT READS IS OF BULK AT MOST 1048576: true; the input reads as it did. -/
def matchNamesUptoRow : OpenClaim := { program := "ytemmhdgaagaglaadoor", sum := "f23c1da06af824166493b8e65d6e54538ec8121f0be7427844de964a731afc84", func := "pairworks/pairworkslaw02.MatchNames", spec := "matchNames", unfollowed := true, recurses := true, named := ["math/bits.deBruijn32tab", "math/bits.deBruijn64tab"], plainKeys := false, apart := false, laid := [("math/bits.deBruijn32tab", laid_math_bits_deBruijn32tab), ("math/bits.deBruijn64tab", laid_math_bits_deBruijn64tab)], narrowed := true }
def MatchNamesUptoSaid : Prop := matchNamesUptoRow.holds Tryd.pinned (OpenSpec.upto matchNamesSpec)

/-- 'pairworkslaw02.MatchTrue', WHERE WHAT IT READS IS OF BULK AT MOST 1048576: true; the input reads as it did. -/
def matchTrueUptoRow : OpenClaim := { program := "ytemmhdgaagaglaadoor", sum := "f23c1da06af824166493b8e65d6e54538ec8121f0be7427844de964a731afc84", func := "pairworks/pairworkslaw02.MatchTrue", spec := "matchTrue", unfollowed := true, recurses := true, named := ["math/bits.deBruijn32tab", "math/bits.deBruijn64tab"], plainKeys := false, apart := false, laid := [("math/bits.deBruijn32tab", laid_math_bits_deBruijn32tab), ("math/bits.deBruijn64tab", laid_math_bits_deBruijn64tab)], narrowed := true }
def MatchTrueUptoSaid : Prop := matchTrueUptoRow.holds Tryd.pinned (OpenSpec.upto matchTrueSpec)

/-- 'pairworkslaw02.MatchSure', WHERE WHAT IT READS IS OF BULK AT MOST 1048576: true; the input reads as it did. -/
def matchSureUptoRow : OpenClaim := { program := "ytemmhdgaagaglaadoor", sum := "f23c1da06af824166493b8e65d6e54538ec8121f0be7427844de964a731afc84", func := "pairworks/pairworkslaw02.MatchSure", spec := "matchSure", unfollowed := true, recurses := true, named := ["math/bits.deBruijn32tab", "math/bits.deBruijn64tab"], plainKeys := false, apart := false, laid := [("math/bits.deBruijn32tab", laid_math_bits_deBruijn32tab), ("math/bits.deBruijn64tab", laid_math_bits_deBruijn64tab)], narrowed := true }
def MatchSureUptoSaid : Prop := matchSureUptoRow.holds Tryd.pinned (OpenSpec.upto matchSureSpec)

/-- 'pairworkslaw02.MatchTurned', WHERE WHAT IT READS IS OF BULK AT MOST 1048576: true; the input reads as it did. -/
def matchTurnedUptoRow : OpenClaim := { program := "ytemmhdgaagaglaadoor", sum := "f23c1da06af824166493b8e65d6e54538ec8121f0be7427844de964a731afc84", func := "pairworks/pairworkslaw02.MatchTurned", spec := "matchTurned", unfollowed := true, recurses := true, named := ["math/bits.deBruijn32tab", "math/bits.deBruijn64tab"], plainKeys := false, apart := false, laid := [("math/bits.deBruijn32tab", laid_math_bits_deBruijn32tab), ("math/bits.deBruijn64tab", laid_math_bits_deBruijn64tab)], narrowed := true }
def MatchTurnedUptoSaid : Prop := matchTurnedUptoRow.holds Tryd.pinned (OpenSpec.upto matchTurnedSpec)

end Rows
end Go.Proofs.YtemmhdgaagaglaaDoor
