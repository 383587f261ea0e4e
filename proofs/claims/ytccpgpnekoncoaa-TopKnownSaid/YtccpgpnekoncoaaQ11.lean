/- Lemmas, in order: Values that hold at this world alone. Bits of numbers with a sign that are not less than nought.. -/
import Derived.Test.YtccpgpnekoncoaaQ10
namespace Go.Sy
open Go Go.Proofs
section
variable {P : Program} {L : List (Nat × Value)} {dd : Option Tmp} {ty : TypeId} {pos : String} {af : Array Edge} {gd : Option (Nat × Bool)} {w : World}
variable {r : Option Nat} {all : Array Oper} {Q : Exit → Act → World → Prop} {rest : List Oper} {a : Act} {n d : Nat} {ds : List Deferred} {o : Oper} {v : Value}
end
end Go.Sy

namespace Go.Sy
open Go Go.Proofs
section
variable {P : Program} {C : World → Prop} {L : List (Nat × Value)} {dd : Option Tmp} {ty : TypeId} {pos : String} {af : Array Edge} {gd : Option (Nat × Bool)}
theorem yv_andnI {t t' : TypeId} {x y : Operand} {p q : Nat} (hx : ev L x = some (.int .i64 ((p : Nat) : Int))) (hy : ev L y = some (.int .i64 ((q : Nat) : Int))) (hp : p ≤ 4611686018427387904) (hq : q ≤ 4611686018427387904) : Yv P C L ⟨dd, .binOp .andNot t x y t', ty, pos, af, gd⟩ (.int .i64 ((p ^^^ (p &&& q) : Nat) : Int)) :=
  yv_cast (yv_andn (.inl rfl) hx hy (Int.natCast_nonneg _) (by simp only [IntKind.top]; omega) (Int.natCast_nonneg _) (by simp only [IntKind.top]; omega)) (intv (by rw [Int.toNat_natCast, Int.toNat_natCast]; rfl))
end
end Go.Sy

