/- Lemmas, in order: What the kit's sort leaves, in the engine's words. Iterators whose things lie in memory; a slice that is compared with nil.. -/
import Derived.Test.YtccpgpnekoncoaaGreatQ15
import Derived.Shelf.SlSortCmp.Whole1
namespace Go.Sy
open Go Go.Proofs Go.Sort
section
variable {α : Type} [Inhabited α] {enc : α → Value}
end
end Go.Sy

namespace Go.Sy
open Go Go.Proofs Go.RowKit
section
variable {P : Program} {C : World → Prop} {L : List (Nat × Value)} {dd : Option Tmp} {ty : TypeId} {pos : String} {af : Array Edge} {gd : Option (Nat × Bool)}
theorem run_slNil (d : Nat) {t e : TypeId} (hu : P.underlying t = some (.slice e)) (sa : Option Addr) (n c : Nat) (w : World) : (Op.equalIn (d + 1) t (.slice sa n c) (.slice none 0 0)).run P w = .ok sa.isNone w := by
  cases sa with
  | none => simp [Op.equalIn, run_underlying hu]
  | some a => simp [Op.equalIn, run_underlying hu]
theorem yv_slNil {t t' : TypeId} {x y : Operand} {sa : Option Addr} {n c : Nat} {e : TypeId × Nat} (ht : sliceElem P t = some e) (hx : ev L x = some (.slice sa n c)) (hy : y = .const (.slice none 0 0)) :
    Yv P C L ⟨dd, .binOp .eql t x y t', ty, pos, af, gd⟩ (.bool sa.isNone) := fun ρ hρ w _ => by
  subst hy
  have h0 : ρ (.const (.slice none 0 0)) = .slice none 0 0 := hρ _ _ rfl
  unfold sliceElem at ht
  split at ht
  · rename_i e' hu
    have e2 : (binOp .eql t (.slice sa n c) (.slice none 0 0)).run P w = .ok (.bool sa.isNone) w := by
      show (do pure (.bool (← Op.equal t (.slice sa n c) (.slice none 0 0))) : Sem Value).run P w = _
      rw [Sem.run_bind, show (Op.equal t (.slice sa n c) (.slice none 0 0)).run P w = .ok sa.isNone w from run_slNil 9999 hu sa n c w]; rfl
    have g : (eqGuard .eql t x (.const (.slice none 0 0)) (.slice sa n c) (.slice none 0 0)).run P w = .ok () w := by simp [eqGuard]
    simp only [execOp, hρ _ _ hx, h0, Sem.run_bind, g, Result.andThen_ok, e2, Sem.run_pure]
  · cases ht
end
section
variable {P : Program} {Q : Exit → Act → World → Prop} {a : Act} {w : World} {n : Nat} {ds : List Deferred} {L : List (Nat × Value)}
end
section
variable {P : Program} {Q : Exit → Act → World → Prop} {a : Act} {w w0 : World} {M : List Nat} {H : List (Nat × Obj)} {n : Nat} {ds : List Deferred} {L : List (Nat × Value)}
end
end Go.Sy

