/- Lemmas, in order: And of any number with one that is not less than nought.. -/
import Derived.Test.YtidieepndphodaaQ22
namespace Go.Sy
open Go Go.Proofs
section
variable {P : Program} {C : World → Prop} {L : List (Nat × Value)} {dd : Option Tmp} {ty : TypeId} {pos : String} {af : Array Edge} {gd : Option (Nat × Bool)}
/-- The bits of a number that lie in another one. -/
def andm (p q : Int) : Nat := (BitVec.ofInt 64 p).toNat &&& q.toNat
theorem andm_le (p q : Int) (hq : 0 ≤ q) : ((andm p q : Nat) : Int) ≤ q := by
  have : andm p q ≤ q.toNat := Nat.and_le_right
  omega
theorem yv_andm {t t' : TypeId} {x y : Operand} {p q : Int} (hx : ev L x = some (.int .i64 p)) (hy : ev L y = some (.int .i64 q)) (hq : 0 ≤ q) (hq1 : q ≤ IntKind.top .i64) :
    Yv P C L ⟨dd, .binOp .and t x y t', ty, pos, af, gd⟩ (.int .i64 ((andm p q : Nat) : Int)) := by
  refine yv_bin hx hy ?_
  simp only [binV, Option.some.injEq, Value.int.injEq, true_and]
  rw [BitVec.toNat_and, bits_top hq hq1 (.inl rfl)]
  have h1 := andm_le p q hq
  exact wrap_top (k := .i64) (Int.natCast_nonneg _) (by have := h1; unfold andm at this; exact Int.le_trans this hq1) (.inl rfl)
end
end Go.Sy
