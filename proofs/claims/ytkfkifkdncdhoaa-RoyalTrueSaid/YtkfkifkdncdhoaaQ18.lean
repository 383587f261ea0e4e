/- Lemmas, in order: Bits of numbers with a sign that are not less than nought.. -/
import Derived.Test.YtkfkifkdncdhoaaQ17
namespace Go.Sy
open Go Go.Proofs
section
variable {P : Program} {C : World → Prop} {L : List (Nat × Value)} {dd : Option Tmp} {ty : TypeId} {pos : String} {af : Array Edge} {gd : Option (Nat × Bool)}
theorem yv_orI {t t' : TypeId} {x y : Operand} {p q : Nat} (hx : ev L x = some (.int .i64 ((p : Nat) : Int))) (hy : ev L y = some (.int .i64 ((q : Nat) : Int))) (hp : p ≤ 4611686018427387904) (hq : q ≤ 4611686018427387904) : Yv P C L ⟨dd, .binOp .or t x y t', ty, pos, af, gd⟩ (.int .i64 ((p ||| q : Nat) : Int)) :=
  yv_cast (yv_or (.inl rfl) hx hy (Int.natCast_nonneg _) (by simp only [IntKind.top]; omega) (Int.natCast_nonneg _) (by simp only [IntKind.top]; omega)) (intv (by rw [Int.toNat_natCast, Int.toNat_natCast]))
theorem yv_andI {t t' : TypeId} {x y : Operand} {p q : Nat} (hx : ev L x = some (.int .i64 ((p : Nat) : Int))) (hy : ev L y = some (.int .i64 ((q : Nat) : Int))) (hp : p ≤ 4611686018427387904) (hq : q ≤ 4611686018427387904) : Yv P C L ⟨dd, .binOp .and t x y t', ty, pos, af, gd⟩ (.int .i64 ((p &&& q : Nat) : Int)) :=
  yv_cast (yv_and (.inl rfl) hx hy (Int.natCast_nonneg _) (by simp only [IntKind.top]; omega) (Int.natCast_nonneg _) (by simp only [IntKind.top]; omega)) (intv (by rw [Int.toNat_natCast, Int.toNat_natCast]))
theorem yv_andnI {t t' : TypeId} {x y : Operand} {p q : Nat} (hx : ev L x = some (.int .i64 ((p : Nat) : Int))) (hy : ev L y = some (.int .i64 ((q : Nat) : Int))) (hp : p ≤ 4611686018427387904) (hq : q ≤ 4611686018427387904) : Yv P C L ⟨dd, .binOp .andNot t x y t', ty, pos, af, gd⟩ (.int .i64 ((p ^^^ (p &&& q) : Nat) : Int)) :=
  yv_cast (yv_andn (.inl rfl) hx hy (Int.natCast_nonneg _) (by simp only [IntKind.top]; omega) (Int.natCast_nonneg _) (by simp only [IntKind.top]; omega)) (intv (by rw [Int.toNat_natCast, Int.toNat_natCast]; rfl))
theorem yv_shrI {t t' : TypeId} {x y : Operand} {k' : IntKind} {s n : Nat} (hx : ev L x = some (.int .i64 ((s : Nat) : Int))) (hy : ev L y = some (.int k' ((n : Nat) : Int))) (hn : n ≤ 64 := by omega) : Yv P C L ⟨dd, .binOp .shr t x y t', ty, pos, af, gd⟩ (.int .i64 ((s >>> n : Nat) : Int)) :=
  yv_cast (yv_shrx (.inl rfl) hx hy (Int.natCast_nonneg _) (Int.natCast_nonneg _) (by omega)) (intv (by rw [Int.toNat_natCast, Int.toNat_natCast]))
end
end Go.Sy
