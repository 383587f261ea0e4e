/- Lemmas, in order: The engine: a deferred call with arguments; interfaces that are not nil. Maps whose keys are integers, as what they hold: a function from keys to values. The engine: fields of values.. -/
import Derived.Test.YtccpgpnekoncoaaGreatQ4
namespace Go.Sy
open Go Go.Proofs Go.RowKit
section
variable {P : Program} {fn : Func} {R : Value → World → Prop} {n : Nat} {L : List (Nat × Value)} {a : Act} {w w0 : World} {M : List Nat}
end
section
variable {P : Program} {C : World → Prop} {L : List (Nat × Value)} {dd : Option Tmp} {ty : TypeId} {pos : String} {af : Array Edge} {gd : Option (Nat × Bool)}
end
end Go.Sy

namespace Go.Sy
open Go Go.Proofs Go.RowKit
/-- What the first entry with this key holds. -/
def askL (p : Int) : List MapEntry → Option Value
  | [] => none
  | e :: l => if (match e.key with | .int _ n => n == p | _ => false) = true then some e.val else askL p l
structure MapI (k : IntKind) (m : Int → Option Value) (es : Array MapEntry) : Prop where
  keys : ∀ e ∈ es.toList, ∃ n, e.key = .int k n
  get : ∀ p, askL p es.toList = m p
theorem MapI.nil (k : IntKind) : MapI k (fun _ => none) #[] := ⟨fun e h => by simp at h, fun _ => rfl⟩
section
variable {P : Program} {C : World → Prop} {L : List (Nat × Value)} {dd : Option Tmp} {ty : TypeId} {pos : String} {af : Array Edge} {gd : Option (Nat × Bool)}
end
section
variable {P : Program} {r : Option Nat} {all : Array Oper} {Q : Exit → Act → World → Prop} {rest : List Oper} {a : Act} {w w0 : World} {M : List Nat} {H : List (Nat × Obj)} {n : Nat} {ds : List Deferred} {L : List (Nat × Value)} {v : Value} {d : Nat}
  {ty : TypeId} {pos : String} {af : Array Edge} {gd : Option (Nat × Bool)}
end
end Go.Sy

namespace Go.Sy
open Go Go.Proofs Go.RowKit
def fieldS (P : Program) (t : TypeId) (f : Nat) : Option Nat := match P.underlying t with
  | some (.struct fs) => match fs[f]? with
    | some fl => if scalB P fl.type = true then some fl.offset else none
    | none => none
  | _ => none
section
variable {P : Program} {C : World → Prop} {L : List (Nat × Value)} {dd : Option Tmp} {ty : TypeId} {pos : String} {af : Array Edge} {gd : Option (Nat × Bool)}
theorem yv_fieldS {t : TypeId} {x : Operand} {f k : Nat} {cs : Array Value} {v : Value} (ht : fieldS P t f = some k) (hx : ev L x = some (.agg cs)) (hv : cs[k]? = some v) : Yv P C L ⟨dd, .field t x f, ty, pos, af, gd⟩ v := by
  unfold fieldS at ht
  split at ht
  · rename_i fs hfs
    split at ht
    · rename_i fl hfl
      split at ht
      · rename_i hs
        cases ht
        exact yv_field hfs hfl hs hx hv
      · cases ht
    · cases ht
  · cases ht
end
end Go.Sy

