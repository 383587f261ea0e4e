/- Lemmas, in order: A point at which several ways meet, behind two codes.. -/
import Derived.Test.YtccpgpnekoncoaaGreatQ25
namespace Go.Sy
open Go Go.Proofs Go.RowKit
section
variable {P : Program} {r : Option Nat} {Q : Exit → Act → World → Prop} {n : Nat} {ds : List Deferred} {L : List (Nat × Value)} {a : Act} {w : World}
end
end Go.Sy

