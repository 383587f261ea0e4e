/-
  NARROWER THAN 'FOR EVERY INPUT', by the rows' own cells (each row's printed sentence says how): BarTakes: laid · BarPlans: laid · BarPairs: laid · BarFewest: laid · BarCount: laid · BarMost: laid · BarWhy: laid · BarMore: laid · BarTurned: laid.
  DERIVED. THE GIVEN ROWS OF THIS SEAT. 9 by the template 'for every input the law returns true; each argument reads behind the call as it read before'; 0 by the template 'total and deterministic' (their statements: YtkolcbjghphjeaaDoorTotals.lean).
  GIVEN WITH THE SEED: the statements are not yours to turn. If you find one false, say at which input.
  Laid BY PROGRAM, IN A SANDBOX (cutbox-rows.mjs): the forced cells as the released guide's own fill.sh prints them over the translation b11791f0d9f91cbe… (all of the seat's roots in one cut). By AI agents, Wed Nov 11 2026. No macro, syntax, notation, axiom, sorry.
-/
import Derived.Test.YtkolcbjghphjeaaDoorChecked
import GoSem.Claim
import GoSem.ClaimJoined
import GoSem.ClaimMapViews
import Derived.JoinedTies
import Derived.KernelRfl
namespace Go.Proofs.YtkolcbjghphjeaaDoor
/- THE CELL 'sum', in the pinned program and in every row, IS THE sha256 OF THE DUMP (.gsa) THAT YtkolcbjghphjeaaDoorProg.lean LOADS. Nothing in Lean hashes anything: it is a label: what it is worth is what the hold of that sum in a sandbox is worth. -/
noncomputable def Tryd.pinned : Pinned := { name := "ytkolcbjghphjeaadoor", sum := "b11791f0d9f91cbe0f6d7b552b38e7daca76d9cde19252c647afbb5fef16bd0e", checked := Tryd.checked }
namespace Rows
def none {H : Type} : Left H := { results := [], args := [] }

/- WHAT THE LISTED PACKAGE-LEVEL VARIABLES READ AS WHEN THE CALL BEGINS. Each datum BY PROGRAM (the guide's laid-datum.mjs) off the statement by which the dump's own 'gosem.cut.vars' lays the variable. In a bare row this is a premise. The card (YtkolcbjghphjeaaDoorCards.lean) ties it to the program's text. -/
def laid_math_bits_deBruijn32tab {H : Type} : DataW H := .agg [.lit (.int .u8 0), .lit (.int .u8 1), .lit (.int .u8 28), .lit (.int .u8 2), .lit (.int .u8 29), .lit (.int .u8 14), .lit (.int .u8 24), .lit (.int .u8 3), .lit (.int .u8 30), .lit (.int .u8 22), .lit (.int .u8 20), .lit (.int .u8 15), .lit (.int .u8 25), .lit (.int .u8 17), .lit (.int .u8 4), .lit (.int .u8 8), .lit (.int .u8 31), .lit (.int .u8 27), .lit (.int .u8 13), .lit (.int .u8 23), .lit (.int .u8 21), .lit (.int .u8 19), .lit (.int .u8 16), .lit (.int .u8 7), .lit (.int .u8 26), .lit (.int .u8 12), .lit (.int .u8 18), .lit (.int .u8 6), .lit (.int .u8 11), .lit (.int .u8 5), .lit (.int .u8 10), .lit (.int .u8 9)]
def laid_math_bits_deBruijn64tab {H : Type} : DataW H := .agg [.lit (.int .u8 0), .lit (.int .u8 1), .lit (.int .u8 56), .lit (.int .u8 2), .lit (.int .u8 57), .lit (.int .u8 49), .lit (.int .u8 28), .lit (.int .u8 3), .lit (.int .u8 61), .lit (.int .u8 58), .lit (.int .u8 42), .lit (.int .u8 50), .lit (.int .u8 38), .lit (.int .u8 29), .lit (.int .u8 17), .lit (.int .u8 4), .lit (.int .u8 62), .lit (.int .u8 47), .lit (.int .u8 59), .lit (.int .u8 36), .lit (.int .u8 45), .lit (.int .u8 43), .lit (.int .u8 51), .lit (.int .u8 22), .lit (.int .u8 53), .lit (.int .u8 39), .lit (.int .u8 33), .lit (.int .u8 30), .lit (.int .u8 24), .lit (.int .u8 18), .lit (.int .u8 12), .lit (.int .u8 5), .lit (.int .u8 63), .lit (.int .u8 55), .lit (.int .u8 48), .lit (.int .u8 27), .lit (.int .u8 60), .lit (.int .u8 41), .lit (.int .u8 37), .lit (.int .u8 16), .lit (.int .u8 46), .lit (.int .u8 35), .lit (.int .u8 44), .lit (.int .u8 21), .lit (.int .u8 52), .lit (.int .u8 32), .lit (.int .u8 23), .lit (.int .u8 11), .lit (.int .u8 54), .lit (.int .u8 26), .lit (.int .u8 40), .lit (.int .u8 15), .lit (.int .u8 34), .lit (.int .u8 20), .lit (.int .u8 31), .lit (.int .u8 10), .lit (.int .u8 25), .lit (.int .u8 14), .lit (.int .u8 19), .lit (.int .u8 9), .lit (.int .u8 13), .lit (.int .u8 8), .lit (.int .u8 7), .lit (.int .u8 6)]

/-- 'pairworkslaw04.BarTakes': WHATEVER THE INPUT: true; the input reads as it did. -/
def barTakesSpec : ChangeSpec := { name := "barTakes", fn := fun _ => fun
  | [d1, d2, d3] => { results := [.lit (.bool true)], args := [d1, d2, d3] }
  | _ => none }
def barTakesRow : OpenClaim := { program := "ytkolcbjghphjeaadoor", sum := "b11791f0d9f91cbe0f6d7b552b38e7daca76d9cde19252c647afbb5fef16bd0e", func := "pairworks/pairworkslaw04.BarTakes", spec := "barTakes", unfollowed := true, recurses := true, named := ["math/bits.deBruijn32tab", "math/bits.deBruijn64tab"], apart := false, laid := [("math/bits.deBruijn32tab", laid_math_bits_deBruijn32tab), ("math/bits.deBruijn64tab", laid_math_bits_deBruijn64tab)] }
def BarTakesSaid : Prop := barTakesRow.holds Tryd.pinned (OpenSpec.ofChange barTakesSpec)

/-- ITS FALSE NEIGHBOUR: 'it returns false'. Refute it at one input. -/
def barTakesWrong : ChangeSpec := { name := "barTakes", fn := fun _ => fun
  | [d1, d2, d3] => { results := [.lit (.bool false)], args := [d1, d2, d3] }
  | _ => none }
def BarTakesWrongFalsely : Prop := barTakesRow.holds Tryd.pinned (OpenSpec.ofChange barTakesWrong)

/-- 'pairworkslaw04.BarPlans': WHATEVER THE INPUT: true; the input reads as it did. -/
def barPlansSpec : ChangeSpec := { name := "barPlans", fn := fun _ => fun
  | [d] => { results := [.lit (.bool true)], args := [d] }
  | _ => none }
def barPlansRow : OpenClaim := { program := "ytkolcbjghphjeaadoor", sum := "b11791f0d9f91cbe0f6d7b552b38e7daca76d9cde19252c647afbb5fef16bd0e", func := "pairworks/pairworkslaw04.BarPlans", spec := "barPlans", unfollowed := true, recurses := true, named := ["math/bits.deBruijn32tab", "math/bits.deBruijn64tab"], apart := false, laid := [("math/bits.deBruijn32tab", laid_math_bits_deBruijn32tab), ("math/bits.deBruijn64tab", laid_math_bits_deBruijn64tab)] }
def BarPlansSaid : Prop := barPlansRow.holds Tryd.pinned (OpenSpec.ofChange barPlansSpec)

/-- ITS FALSE NEIGHBOUR: 'it returns false'. Refute it at one input. -/
def barPlansWrong : ChangeSpec := { name := "barPlans", fn := fun _ => fun
  | [d] => { results := [.lit (.bool false)], args := [d] }
  | _ => none }
def BarPlansWrongFalsely : Prop := barPlansRow.holds Tryd.pinned (OpenSpec.ofChange barPlansWrong)

/-- 'pairworkslaw04.BarPairs': WHATEVER THE INPUT: true; the input reads as it did. -/
def barPairsSpec : ChangeSpec := { name := "barPairs", fn := fun _ => fun
  | [d1, d2, d3] => { results := [.lit (.bool true)], args := [d1, d2, d3] }
  | _ => none }
def barPairsRow : OpenClaim := { program := "ytkolcbjghphjeaadoor", sum := "b11791f0d9f91cbe0f6d7b552b38e7daca76d9cde19252c647afbb5fef16bd0e", func := "pairworks/pairworkslaw04.BarPairs", spec := "barPairs", unfollowed := true, recurses := true, named := ["math/bits.deBruijn32tab", "math/bits.deBruijn64tab"], apart := false, laid := [("math/bits.deBruijn32tab", laid_math_bits_deBruijn32tab), ("math/bits.deBruijn64tab", laid_math_bits_deBruijn64tab)] }
def BarPairsSaid : Prop := barPairsRow.holds Tryd.pinned (OpenSpec.ofChange barPairsSpec)

/-- ITS FALSE NEIGHBOUR: 'it returns false'. Refute it at one input. -/
def barPairsWrong : ChangeSpec := { name := "barPairs", fn := fun _ => fun
  | [d1, d2, d3] => { results := [.lit (.bool false)], args := [d1, d2, d3] }
  | _ => none }
def BarPairsWrongFalsely : Prop := barPairsRow.holds Tryd.pinned (OpenSpec.ofChange barPairsWrong)

/-- 'pairworkslaw04.BarFewest': WHATEVER THE INPUT: true; the input reads as it did. -/
def barFewestSpec : ChangeSpec := { name := "barFewest", fn := fun _ => fun
  | [d1, d2] => { results := [.lit (.bool true)], args := [d1, d2] }
  | _ => none }
def barFewestRow : OpenClaim := { program := "ytkolcbjghphjeaadoor", sum := "b11791f0d9f91cbe0f6d7b552b38e7daca76d9cde19252c647afbb5fef16bd0e", func := "pairworks/pairworkslaw04.BarFewest", spec := "barFewest", unfollowed := true, recurses := true, named := ["math/bits.deBruijn32tab", "math/bits.deBruijn64tab"], apart := false, laid := [("math/bits.deBruijn32tab", laid_math_bits_deBruijn32tab), ("math/bits.deBruijn64tab", laid_math_bits_deBruijn64tab)] }
def BarFewestSaid : Prop := barFewestRow.holds Tryd.pinned (OpenSpec.ofChange barFewestSpec)

/-- ITS FALSE NEIGHBOUR: 'it returns false'. Refute it at one input. -/
def barFewestWrong : ChangeSpec := { name := "barFewest", fn := fun _ => fun
  | [d1, d2] => { results := [.lit (.bool false)], args := [d1, d2] }
  | _ => none }
def BarFewestWrongFalsely : Prop := barFewestRow.holds Tryd.pinned (OpenSpec.ofChange barFewestWrong)

/-- 'pairworkslaw04.BarCount': WHATEVER THE INPUT: true; the input reads as it did. -/
def barCountSpec : ChangeSpec := { name := "barCount", fn := fun _ => fun
  | [d] => { results := [.lit (.bool true)], args := [d] }
  | _ => none }
def barCountRow : OpenClaim := { program := "ytkolcbjghphjeaadoor", sum := "b11791f0d9f91cbe0f6d7b552b38e7daca76d9cde19252c647afbb5fef16bd0e", func := "pairworks/pairworkslaw04.BarCount", spec := "barCount", unfollowed := true, recurses := true, named := ["math/bits.deBruijn32tab", "math/bits.deBruijn64tab"], apart := false, laid := [("math/bits.deBruijn32tab", laid_math_bits_deBruijn32tab), ("math/bits.deBruijn64tab", laid_math_bits_deBruijn64tab)] }
def BarCountSaid : Prop := barCountRow.holds Tryd.pinned (OpenSpec.ofChange barCountSpec)

/-- ITS FALSE NEIGHBOUR: 'it returns false'. Refute it at one input. -/
def barCountWrong : ChangeSpec := { name := "barCount", fn := fun _ => fun
  | [d] => { results := [.lit (.bool false)], args := [d] }
  | _ => none }
def BarCountWrongFalsely : Prop := barCountRow.holds Tryd.pinned (OpenSpec.ofChange barCountWrong)

/-- 'pairworkslaw04.BarMost': WHATEVER THE INPUT: true; the input reads as it did. -/
def barMostSpec : ChangeSpec := { name := "barMost", fn := fun _ => fun
  | [d1, d2] => { results := [.lit (.bool true)], args := [d1, d2] }
  | _ => none }
def barMostRow : OpenClaim := { program := "ytkolcbjghphjeaadoor", sum := "b11791f0d9f91cbe0f6d7b552b38e7daca76d9cde19252c647afbb5fef16bd0e", func := "pairworks/pairworkslaw04.BarMost", spec := "barMost", unfollowed := true, recurses := true, named := ["math/bits.deBruijn32tab", "math/bits.deBruijn64tab"], apart := false, laid := [("math/bits.deBruijn32tab", laid_math_bits_deBruijn32tab), ("math/bits.deBruijn64tab", laid_math_bits_deBruijn64tab)] }
def BarMostSaid : Prop := barMostRow.holds Tryd.pinned (OpenSpec.ofChange barMostSpec)

/-- ITS FALSE NEIGHBOUR: 'it returns false'. Refute it at one input. -/
def barMostWrong : ChangeSpec := { name := "barMost", fn := fun _ => fun
  | [d1, d2] => { results := [.lit (.bool false)], args := [d1, d2] }
  | _ => none }
def BarMostWrongFalsely : Prop := barMostRow.holds Tryd.pinned (OpenSpec.ofChange barMostWrong)

/-- 'pairworkslaw04.BarWhy': WHATEVER THE INPUT: true; the input reads as it did. -/
def barWhySpec : ChangeSpec := { name := "barWhy", fn := fun _ => fun
  | [d1, d2] => { results := [.lit (.bool true)], args := [d1, d2] }
  | _ => none }
def barWhyRow : OpenClaim := { program := "ytkolcbjghphjeaadoor", sum := "b11791f0d9f91cbe0f6d7b552b38e7daca76d9cde19252c647afbb5fef16bd0e", func := "pairworks/pairworkslaw04.BarWhy", spec := "barWhy", unfollowed := true, recurses := true, named := ["math/bits.deBruijn32tab", "math/bits.deBruijn64tab"], apart := false, laid := [("math/bits.deBruijn32tab", laid_math_bits_deBruijn32tab), ("math/bits.deBruijn64tab", laid_math_bits_deBruijn64tab)] }
def BarWhySaid : Prop := barWhyRow.holds Tryd.pinned (OpenSpec.ofChange barWhySpec)

/-- ITS FALSE NEIGHBOUR: 'it returns false'. Refute it at one input. -/
def barWhyWrong : ChangeSpec := { name := "barWhy", fn := fun _ => fun
  | [d1, d2] => { results := [.lit (.bool false)], args := [d1, d2] }
  | _ => none }
def BarWhyWrongFalsely : Prop := barWhyRow.holds Tryd.pinned (OpenSpec.ofChange barWhyWrong)

/-- 'pairworkslaw04.BarMore': WHATEVER THE INPUT: true; the input reads as it did. -/
def barMoreSpec : ChangeSpec := { name := "barMore", fn := fun _ => fun
  | [d1, d2, d3] => { results := [.lit (.bool true)], args := [d1, d2, d3] }
  | _ => none }
def barMoreRow : OpenClaim := { program := "ytkolcbjghphjeaadoor", sum := "b11791f0d9f91cbe0f6d7b552b38e7daca76d9cde19252c647afbb5fef16bd0e", func := "pairworks/pairworkslaw04.BarMore", spec := "barMore", unfollowed := true, recurses := true, named := ["math/bits.deBruijn32tab", "math/bits.deBruijn64tab"], apart := false, laid := [("math/bits.deBruijn32tab", laid_math_bits_deBruijn32tab), ("math/bits.deBruijn64tab", laid_math_bits_deBruijn64tab)] }
def BarMoreSaid : Prop := barMoreRow.holds Tryd.pinned (OpenSpec.ofChange barMoreSpec)

/-- ITS FALSE NEIGHBOUR: 'it returns false'. Refute it at one input. -/
def barMoreWrong : ChangeSpec := { name := "barMore", fn := fun _ => fun
  | [d1, d2, d3] => { results := [.lit (.bool false)], args := [d1, d2, d3] }
  | _ => none }
def BarMoreWrongFalsely : Prop := barMoreRow.holds Tryd.pinned (OpenSpec.ofChange barMoreWrong)

/-- 'pairworkslaw04.BarTurned': WHATEVER THE INPUT: true; the input reads as it did. -/
def barTurnedSpec : ChangeSpec := { name := "barTurned", fn := fun _ => fun
  | [d1, d2] => { results := [.lit (.bool true)], args := [d1, d2] }
  | _ => none }
def barTurnedRow : OpenClaim := { program := "ytkolcbjghphjeaadoor", sum := "b11791f0d9f91cbe0f6d7b552b38e7daca76d9cde19252c647afbb5fef16bd0e", func := "pairworks/pairworkslaw04.BarTurned", spec := "barTurned", unfollowed := true, recurses := true, named := ["math/bits.deBruijn32tab", "math/bits.deBruijn64tab"], apart := false, laid := [("math/bits.deBruijn32tab", laid_math_bits_deBruijn32tab), ("math/bits.deBruijn64tab", laid_math_bits_deBruijn64tab)] }
def BarTurnedSaid : Prop := barTurnedRow.holds Tryd.pinned (OpenSpec.ofChange barTurnedSpec)

/-- ITS FALSE NEIGHBOUR: 'it returns false'. Refute it at one input. -/
def barTurnedWrong : ChangeSpec := { name := "barTurned", fn := fun _ => fun
  | [d1, d2] => { results := [.lit (.bool false)], args := [d1, d2] }
  | _ => none }
def BarTurnedWrongFalsely : Prop := barTurnedRow.holds Tryd.pinned (OpenSpec.ofChange barTurnedWrong)

/- THE SECOND FORM. 'bulk': how many values and letters a reading holds, each counted each time it is reached (what is shared counts as often as it is met; a slice's spare places count too). A statement '..UptoSaid' is the law's where the arguments, and the package variables that the reading takes, are together of bulk at most 1048576: NARROWER than '..Said'. Prove '..Said' where nothing that the law and all that it calls make is longer than what came in: it says more and counts as full. Else prove '..UptoSaid'. A law counts once. -/
mutual
def uptoBulk {H : Type} : DataW H → Nat
  | .lit (.string bytes) => bytes.length + 1
  | .lit _ => 1
  | .nil => 1
  | .ptr d => uptoBulk d + 1
  | .slice elems spare => uptoBulkAll elems + uptoBulkAll spare + 1
  | .agg parts => uptoBulkAll parts + 1
  | .iface _ d => uptoBulk d + 1
  | .map entries => uptoBulkEntries entries + 1
  | .held _ => 1
def uptoBulkAll {H : Type} : List (DataW H) → Nat
  | [] => 0
  | d :: r => uptoBulk d + uptoBulkAll r
def uptoBulkEntries {H : Type} : List (Lit × DataW H) → Nat
  | [] => 0
  | x :: r => uptoBulkEntry x + uptoBulkEntries r
def uptoBulkEntry {H : Type} : Lit × DataW H → Nat
  | (.string bytes, d) => bytes.length + uptoBulk d + 1
  | (_, d) => uptoBulk d + 1
 end
def uptoSmall : (H : Type) → List (DataW H) → Bool := fun _ ds => decide (uptoBulkAll ds ≤ 1048576)
def OpenSpec.upto (s : _root_.Go.ChangeSpec) : _root_.Go.OpenSpec := { _root_.Go.OpenSpec.ofChange s with cond := some uptoSmall }

/-- 'pairworkslaw04.BarTakes', WHERE WHAT IT READS IS OF BULK AT MOST 1048576: true; the input reads as it did. -/
def barTakesUptoRow : OpenClaim := { program := "ytkolcbjghphjeaadoor", sum := "b11791f0d9f91cbe0f6d7b552b38e7daca76d9cde19252c647afbb5fef16bd0e", func := "pairworks/pairworkslaw04.BarTakes", spec := "barTakes", unfollowed := true, recurses := true, named := ["math/bits.deBruijn32tab", "math/bits.deBruijn64tab"], apart := false, laid := [("math/bits.deBruijn32tab", laid_math_bits_deBruijn32tab), ("math/bits.deBruijn64tab", laid_math_bits_deBruijn64tab)], narrowed := true }
def BarTakesUptoSaid : Prop := barTakesUptoRow.holds Tryd.pinned (OpenSpec.upto barTakesSpec)

/-- 'pairworkslaw04.BarPlans', WHERE WHAT IT READS IS OF BULK AT MOST 1048576: true; the input reads as it did. -/
def barPlansUptoRow : OpenClaim := { program := "ytkolcbjghphjeaadoor", sum := "b11791f0d9f91cbe0f6d7b552b38e7daca76d9cde19252c647afbb5fef16bd0e", func := "pairworks/pairworkslaw04.BarPlans", spec := "barPlans", unfollowed := true, recurses := true, named := ["math/bits.deBruijn32tab", "math/bits.deBruijn64tab"], apart := false, laid := [("math/bits.deBruijn32tab", laid_math_bits_deBruijn32tab), ("math/bits.deBruijn64tab", laid_math_bits_deBruijn64tab)], narrowed := true }
def BarPlansUptoSaid : Prop := barPlansUptoRow.holds Tryd.pinned (OpenSpec.upto barPlansSpec)

/-- 'pairworkslaw04.BarPairs', WHERE WHAT IT READS IS OF BULK AT MOST 1048576: true; the input reads as it did. -/
def barPairsUptoRow : OpenClaim := { program := "ytkolcbjghphjeaadoor", sum := "b11791f0d9f91cbe0f6d7b552b38e7daca76d9cde19252c647afbb5fef16bd0e", func := "pairworks/pairworkslaw04.BarPairs", spec := "barPairs", unfollowed := true, recurses := true, named := ["math/bits.deBruijn32tab", "math/bits.deBruijn64tab"], apart := false, laid := [("math/bits.deBruijn32tab", laid_math_bits_deBruijn32tab), ("math/bits.deBruijn64tab", laid_math_bits_deBruijn64tab)], narrowed := true }
def BarPairsUptoSaid : Prop := barPairsUptoRow.holds Tryd.pinned (OpenSpec.upto barPairsSpec)

/-- 'pairworkslaw04.BarFewest', WHERE WHAT IT READS IS OF BULK AT MOST 1048576: true; the input reads as it did. -/
def barFewestUptoRow : OpenClaim := { program := "ytkolcbjghphjeaadoor", sum := "b11791f0d9f91cbe0f6d7b552b38e7daca76d9cde19252c647afbb5fef16bd0e", func := "pairworks/pairworkslaw04.BarFewest", spec := "barFewest", unfollowed := true, recurses := true, named := ["math/bits.deBruijn32tab", "math/bits.deBruijn64tab"], apart := false, laid := [("math/bits.deBruijn32tab", laid_math_bits_deBruijn32tab), ("math/bits.deBruijn64tab", laid_math_bits_deBruijn64tab)], narrowed := true }
def BarFewestUptoSaid : Prop := barFewestUptoRow.holds Tryd.pinned (OpenSpec.upto barFewestSpec)

/-- 'pairworkslaw04.BarCount', WHERE WHAT IT READS IS OF BULK AT MOST 1048576: true; the input reads as it did. -/
def barCountUptoRow : OpenClaim := { program := "ytkolcbjghphjeaadoor", sum := "b11791f0d9f91cbe0f6d7b552b38e7daca76d9cde19252c647afbb5fef16bd0e", func := "pairworks/pairworkslaw04.BarCount", spec := "barCount", unfollowed := true, recurses := true, named := ["math/bits.deBruijn32tab", "math/bits.deBruijn64tab"], apart := false, laid := [("math/bits.deBruijn32tab", laid_math_bits_deBruijn32tab), ("math/bits.deBruijn64tab", laid_math_bits_deBruijn64tab)], narrowed := true }
def BarCountUptoSaid : Prop := barCountUptoRow.holds Tryd.pinned (OpenSpec.upto barCountSpec)

/-- 'pairworkslaw04.BarMost', WHERE WHAT IT READS IS OF BULK AT MOST 1048576: true; the input reads as it did. -/
def barMostUptoRow : OpenClaim := { program := "ytkolcbjghphjeaadoor", sum := "b11791f0d9f91cbe0f6d7b552b38e7daca76d9cde19252c647afbb5fef16bd0e", func := "pairworks/pairworkslaw04.BarMost", spec := "barMost", unfollowed := true, recurses := true, named := ["math/bits.deBruijn32tab", "math/bits.deBruijn64tab"], apart := false, laid := [("math/bits.deBruijn32tab", laid_math_bits_deBruijn32tab), ("math/bits.deBruijn64tab", laid_math_bits_deBruijn64tab)], narrowed := true }
def BarMostUptoSaid : Prop := barMostUptoRow.holds Tryd.pinned (OpenSpec.upto barMostSpec)

/-- 'pairworkslaw04.BarWhy', WHERE WHAT IT READS IS OF BULK AT MOST 1048576: true; the input reads as it did. -/
def barWhyUptoRow : OpenClaim := { program := "ytkolcbjghphjeaadoor", sum := "b11791f0d9f91cbe0f6d7b552b38e7daca76d9cde19252c647afbb5fef16bd0e", func := "pairworks/pairworkslaw04.BarWhy", spec := "barWhy", unfollowed := true, recurses := true, named := ["math/bits.deBruijn32tab", "math/bits.deBruijn64tab"], apart := false, laid := [("math/bits.deBruijn32tab", laid_math_bits_deBruijn32tab), ("math/bits.deBruijn64tab", laid_math_bits_deBruijn64tab)], narrowed := true }
def BarWhyUptoSaid : Prop := barWhyUptoRow.holds Tryd.pinned (OpenSpec.upto barWhySpec)

/-- 'pairworkslaw04.BarMore', WHERE WHAT IT READS IS OF BULK AT MOST 1048576: true; the input reads as it did. -/
def barMoreUptoRow : OpenClaim := { program := "ytkolcbjghphjeaadoor", sum := "b11791f0d9f91cbe0f6d7b552b38e7daca76d9cde19252c647afbb5fef16bd0e", func := "pairworks/pairworkslaw04.BarMore", spec := "barMore", unfollowed := true, recurses := true, named := ["math/bits.deBruijn32tab", "math/bits.deBruijn64tab"], apart := false, laid := [("math/bits.deBruijn32tab", laid_math_bits_deBruijn32tab), ("math/bits.deBruijn64tab", laid_math_bits_deBruijn64tab)], narrowed := true }
def BarMoreUptoSaid : Prop := barMoreUptoRow.holds Tryd.pinned (OpenSpec.upto barMoreSpec)

/-- 'pairworkslaw04.BarTurned', WHERE WHAT IT READS IS OF BULK AT MOST 1048576: true; the input reads as it did. -/
def barTurnedUptoRow : OpenClaim := { program := "ytkolcbjghphjeaadoor", sum := "b11791f0d9f91cbe0f6d7b552b38e7daca76d9cde19252c647afbb5fef16bd0e", func := "pairworks/pairworkslaw04.BarTurned", spec := "barTurned", unfollowed := true, recurses := true, named := ["math/bits.deBruijn32tab", "math/bits.deBruijn64tab"], apart := false, laid := [("math/bits.deBruijn32tab", laid_math_bits_deBruijn32tab), ("math/bits.deBruijn64tab", laid_math_bits_deBruijn64tab)], narrowed := true }
def BarTurnedUptoSaid : Prop := barTurnedUptoRow.holds Tryd.pinned (OpenSpec.upto barTurnedSpec)

end Rows
end Go.Proofs.YtkolcbjghphjeaaDoor
