/- Lemmas, in order: An array as a whole, as a slice.. -/
import Derived.Test.YtccpgpnekoncoaaGreatQ9
namespace Go.Sy
open Go Go.Proofs
section
variable {P : Program} {C : World → Prop} {L : List (Nat × Value)} {dd : Option Tmp} {ty : TypeId} {pos : String} {af : Array Edge} {gd : Option (Nat × Bool)}
theorem yv_sliceArr {t e : TypeId} {m sz : Nat} {x : Operand} {b : Nat} (ht : arrayElem P t = some (m, e, sz)) (hx : ev L x = some (ptr b 0)) : Yv P C L ⟨dd, .slice t x none none none, ty, pos, af, gd⟩ (.slice (some ⟨b, 0, none⟩) m m) := fun ρ hρ w _ => by
  unfold arrayElem at ht
  split at ht
  · rename_i n' e' he
    cases hin : P.info? e' with
    | none => rw [hin] at ht; simp at ht
    | some inf =>
      rw [hin] at ht; simp at ht
      obtain ⟨rfl, rfl, rfl⟩ := ht
      have h : (⟨b, 0, none⟩ : Addr).add 0 = ⟨b, 0, none⟩ := rfl
      by_cases h0 : n' = 0
      · simp [execOp, hρ _ _ hx, Instr.sliceAt, Instr.sureAddr, run_underlying he, Instr.sliceBounds, sizeOf, typeInfo, hin, h0]
      · simp [execOp, hρ _ _ hx, Instr.sliceAt, Instr.sureAddr, run_underlying he, Instr.sliceBounds, sizeOf, typeInfo, hin, h0, h]
  · simp at ht
end
end Go.Sy

