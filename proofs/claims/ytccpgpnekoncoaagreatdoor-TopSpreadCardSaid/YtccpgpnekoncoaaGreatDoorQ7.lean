/- Lemmas, in order: Regions whose order is open, with calls that may panic.. -/
import Derived.Test.YtccpgpnekoncoaaGreatDoorQ6
namespace Go.Sy
open Go Go.Proofs Go.RowKit
section
variable {P : Program} {r : Option Nat} {ops : Array Oper} {md : Region.Mode} {C : World → Prop} {X : List PanicEntry → World → Prop}
end
section
variable {P : Program} {r : Option Nat} {ops : Array Oper} {md : Region.Mode} {Cs : Cls} {X : List PanicEntry → World → Prop} {Z : Act → Prop} {Q : Act → World → Prop}
end
section
variable {P : Program} {r : Option Nat} {ops : Array Oper} {Cs : Cls} {X : List PanicEntry → World → Prop} {Lk : List (Nat × Value)} {Q : Act → World → Prop} {k n c : Nat} {t : OC} {ds : List Deferred} {L : List (Nat × Value)} {a : Act} {w : World} {o : Oper} {d : Nat} {v : Value} {p : (World → Prop) × List Nat}
end
end Go.Sy

