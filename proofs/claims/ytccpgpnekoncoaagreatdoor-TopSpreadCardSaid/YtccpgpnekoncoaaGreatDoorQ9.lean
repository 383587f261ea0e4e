/- Lemmas, in order: A method value that is no nil; a part of a struct, an array, as a slice.. -/
import Derived.Test.YtccpgpnekoncoaaGreatDoorQ8
namespace Go.Sy
open Go Go.Proofs Go.RowKit
section
variable {P : Program} {t : TypeId} {name : String} {f : FuncId}
theorem run_nilAheadS (h : methS P t name = some f) (fuel : Nat) (v : Value) (w : World) : (nilAhead (fuel + 1) t v name).run P w = .ok (some false) w := by
  unfold methS at h
  split at h
  · rename_i ti e hi hu
    split at h
    · rename_i m hm
      split at h
      · rename_i hp
        split at h
        · rename_i f' hf'
          cases h
          have hp' : m.path.toList = [] := by simpa using hp
          simp [nilAhead, run_typeInfo w hi, hm, hp', followBlind, hf', run_underlying hu]
        · cases h
      · cases h
    · cases h
  · cases h
variable {C : World → Prop} {L : List (Nat × Value)} {dd : Option Tmp} {ty : TypeId} {pos : String} {af : Array Edge} {gd : Option (Nat × Bool)}
theorem yv_nilMeth {x : Operand} {v : Value} (hm : methS P t name = some f) (hx : ev L x = some (.func (.method name) #[.iface t v] #[])) : Yv P C L ⟨dd, .nilCheck x, ty, pos, af, gd⟩ (.func (.method name) #[.iface t v] #[]) := fun ρ hρ w _ => by
  obtain ⟨n, hn⟩ : ∃ n, P.types.size + Made.depth = n + 1 := ⟨P.types.size + Made.depth - 1, by
    have : 0 < Made.depth := by decide
    omega⟩
  have h1 := run_nilAheadS hm n v w
  simp [execOp, hρ _ _ hx, program, Sem.run, hn, h1]
theorem yv_sliceArrO {t e : TypeId} {m sz : Nat} {x : Operand} {b off : Nat} (ht : arrayElem P t = some (m, e, sz)) (hx : ev L x = some (ptr b off)) : Yv P C L ⟨dd, .slice t x none none none, ty, pos, af, gd⟩ (.slice (some ⟨b, off, none⟩) m m) := fun ρ hρ w _ => by
  unfold arrayElem at ht
  split at ht
  · rename_i n' e' he
    cases hin : P.info? e' with
    | none => rw [hin] at ht; simp at ht
    | some inf =>
      rw [hin] at ht; simp at ht
      obtain ⟨rfl, rfl, rfl⟩ := ht
      have h : (⟨b, off, none⟩ : Addr).add 0 = ⟨b, off, none⟩ := rfl
      by_cases h0 : n' = 0
      · simp [execOp, hρ _ _ hx, Instr.sliceAt, Instr.sureAddr, run_underlying he, Instr.sliceBounds, sizeOf, typeInfo, hin, h0]
      · simp [execOp, hρ _ _ hx, Instr.sliceAt, Instr.sureAddr, run_underlying he, Instr.sliceBounds, sizeOf, typeInfo, hin, h0, h]
  · simp at ht
end
end Go.Sy

