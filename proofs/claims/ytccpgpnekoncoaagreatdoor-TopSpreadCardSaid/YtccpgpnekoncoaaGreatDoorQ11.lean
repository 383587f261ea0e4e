/- Lemmas, in order: Values that hold at this world alone. Bits of numbers with a sign that are not less than nought.. -/
import Derived.Test.YtccpgpnekoncoaaGreatDoorQ10
namespace Go.Sy
open Go Go.Proofs
section
variable {P : Program} {L : List (Nat × Value)} {dd : Option Tmp} {ty : TypeId} {pos : String} {af : Array Edge} {gd : Option (Nat × Bool)} {w : World}
variable {r : Option Nat} {all : Array Oper} {Q : Exit → Act → World → Prop} {rest : List Oper} {a : Act} {n d : Nat} {ds : List Deferred} {o : Oper} {v : Value}
end
end Go.Sy

namespace Go.Sy
open Go Go.Proofs
section
variable {P : Program} {C : World → Prop} {L : List (Nat × Value)} {dd : Option Tmp} {ty : TypeId} {pos : String} {af : Array Edge} {gd : Option (Nat × Bool)}
end
end Go.Sy

