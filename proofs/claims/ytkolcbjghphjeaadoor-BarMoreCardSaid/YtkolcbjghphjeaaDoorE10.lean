/- The engine: equality of bools; one bit of a number. -/
import Derived.Test.YtkolcbjghphjeaaDoorE9
namespace Go.Sy
open Go Go.Proofs
section
variable {P : Program} {C : World → Prop} {L : List (Nat × Value)} {dd : Option Tmp} {ty : TypeId} {pos : String} {af : Array Edge} {gd : Option (Nat × Bool)}
theorem run_eqb (d : Nat) {t : TypeId} {p q : Bool} (ht : P.underlying t = some .bool) (w : World) : (Op.equalIn (d + 1) t (.bool p) (.bool q)).run P w = .ok (decide (p = q)) w := by
  have e : (p == q) = decide (p = q) := by cases p <;> cases q <;> rfl
  simp [Op.equalIn, run_underlying ht, e]
theorem run_equalb {t : TypeId} {p q : Bool} (ht : P.underlying t = some .bool) (w : World) : (Op.equal t (.bool p) (.bool q)).run P w = .ok (decide (p = q)) w := run_eqb 9999 ht w
theorem run_eqGuard_bool (op : BinOp) (t : TypeId) (x y : Operand) (p q : Bool) (w : World) : (eqGuard op t x y (.bool p) (.bool q)).run P w = .ok () w := by
  cases op <;> simp [eqGuard]
theorem yv_eqb {t t' : TypeId} {x y : Operand} {p q : Bool} (ht : P.underlying t = some .bool) (hx : ev L x = some (.bool p)) (hy : ev L y = some (.bool q)) :
    Yv P C L ⟨dd, .binOp .eql t x y t', ty, pos, af, gd⟩ (.bool (decide (p = q))) := fun ρ hρ w _ => by
  have e : (binOp .eql t (.bool p) (.bool q)).run P w = .ok (.bool (decide (p = q))) w := by
    show (do pure (.bool (← Op.equal t (.bool p) (.bool q))) : Sem Value).run P w = _
    rw [Sem.run_bind, run_equalb ht]; rfl
  simp only [execOp, hρ _ _ hx, hρ _ _ hy, Sem.run_bind, run_eqGuard_bool, Result.andThen_ok, e, Sem.run_pure]
theorem yv_neb {t t' : TypeId} {x y : Operand} {p q : Bool} (ht : P.underlying t = some .bool) (hx : ev L x = some (.bool p)) (hy : ev L y = some (.bool q)) :
    Yv P C L ⟨dd, .binOp .neq t x y t', ty, pos, af, gd⟩ (.bool (!decide (p = q))) := fun ρ hρ w _ => by
  have e : (binOp .neq t (.bool p) (.bool q)).run P w = .ok (.bool (!decide (p = q))) w := by
    show (do pure (.bool (!(← Op.equal t (.bool p) (.bool q)))) : Sem Value).run P w = _
    rw [Sem.run_bind, run_equalb ht]; rfl
  simp only [execOp, hρ _ _ hx, hρ _ _ hy, Sem.run_bind, run_eqGuard_bool, Result.andThen_ok, e, Sem.run_pure]
end
section
variable {P : Program} {C : World → Prop} {L : List (Nat × Value)} {dd : Option Tmp} {ty : TypeId} {pos : String} {af : Array Edge} {gd : Option (Nat × Bool)}
theorem wrap_u16 {n : Int} (h1 : 0 ≤ n) (h2 : n ≤ 65535) : IntKind.u16.wrap n = n := by
  simp only [IntKind.wrap, IntKind.signed, IntKind.bits]
  simp
  omega
theorem yv_and16 {t t' : TypeId} {x y : Operand} {p q : Int} (hx : ev L x = some (.int .u16 p)) (hy : ev L y = some (.int .u16 q)) (hp : 0 ≤ p) (hp1 : p ≤ 65535) (hq : 0 ≤ q) (hq1 : q ≤ 65535) :
    Yv P C L ⟨dd, .binOp .and t x y t', ty, pos, af, gd⟩ (.int .u16 ((p.toNat &&& q.toNat : Nat) : Int)) := by
  refine yv_bin hx hy ?_
  simp only [binV, Option.some.injEq, Value.int.injEq, true_and]
  have e1 : (BitVec.ofInt IntKind.u16.bits p).toNat = p.toNat := ofInt_nat hp (by simp only [IntKind.bits]; omega)
  have e2 : (BitVec.ofInt IntKind.u16.bits q).toNat = q.toNat := ofInt_nat hq (by simp only [IntKind.bits]; omega)
  rw [BitVec.toNat_and, e1, e2]
  have h1 : p.toNat &&& q.toNat ≤ p.toNat := Nat.and_le_left
  exact wrap_u16 (by omega) (by omega)
theorem yv_shr16 {t t' : TypeId} {x y : Operand} {k' : IntKind} {p q : Int} (hx : ev L x = some (.int .u16 p)) (hy : ev L y = some (.int k' q)) (hp : 0 ≤ p) (h0 : 0 ≤ q) (hq : q ≤ 16) :
    Yv P C L ⟨dd, .binOp .shr t x y t', ty, pos, af, gd⟩ (.int .u16 ((p.toNat >>> q.toNat : Nat) : Int)) := fun ρ hρ w hw => by
  have h := yv_shr (P := P) (C := C) (L := L) (dd := dd) (ty := ty) (pos := pos) (af := af) (gd := gd) (t := t) (t' := t') hx hy h0 (by simp only [IntKind.bits]; omega) ρ hρ w hw
  have e : p.fdiv (2 ^ q.toNat) = ((p.toNat >>> q.toNat : Nat) : Int) := by
    obtain ⟨m, rfl⟩ := Int.eq_ofNat_of_zero_le hp
    rw [Int.toNat_natCast, Nat.shiftRight_eq_div_pow, Int.fdiv_eq_ediv_of_nonneg _ (Int.pow_nonneg (by omega))]
    push_cast; rfl
  rw [e] at h
  exact h
end
section
variable {P : Program} {C : World → Prop} {L : List (Nat × Value)} {dd : Option Tmp} {ty : TypeId} {pos : String} {af : Array Edge} {gd : Option (Nat × Bool)}
theorem yv_and1 {t t' : TypeId} {x y : Operand} {p k : Nat} (hx : ev L x = some (.int .i64 ((p >>> k : Nat) : Int))) (hy : ev L y = some (.int .i64 1)) (hp : p ≤ 9223372036854775807) :
    Yv P C L ⟨dd, .binOp .and t x y t', ty, pos, af, gd⟩ (.int .i64 (((p >>> k) &&& 1 : Nat) : Int)) := by
  have h : p >>> k ≤ 9223372036854775807 := Nat.le_trans (Nat.shiftRight_le p k) hp
  have h2 := yv_and (P := P) (C := C) (dd := dd) (ty := ty) (pos := pos) (af := af) (gd := gd) (t := t) (t' := t') (k := .i64) (.inl rfl) hx hy (Int.natCast_nonneg _) (by simp only [IntKind.top]; exact Int.ofNat_le.2 h) (by omega) (by simp only [IntKind.top]; omega)
  exact h2
end
theorem bit1 (p k : Nat) : (p >>> k) &&& 1 = if p.testBit k then 1 else 0 := by
  rw [Nat.and_one_is_mod, Nat.testBit_eq_decide_div_mod_eq, Nat.shiftRight_eq_div_pow]
  have := Nat.mod_lt (p / 2 ^ k) (show 2 > 0 by omega)
  by_cases h : p / 2 ^ k % 2 = 1
  · simp [h]
  · simp [h]; omega
theorem bit1_le (p k : Nat) : (p >>> k) &&& 1 ≤ 1 := by rw [bit1]; split <;> omega
theorem bit1_eq {p k : Nat} : (p >>> k) &&& 1 = 1 ↔ p.testBit k = true := by rw [bit1]; split <;> simp [*]
theorem bit1_ne {p k : Nat} : (p >>> k) &&& 1 = 0 ↔ p.testBit k = false := by rw [bit1]; split <;> simp [*]
end Go.Sy
