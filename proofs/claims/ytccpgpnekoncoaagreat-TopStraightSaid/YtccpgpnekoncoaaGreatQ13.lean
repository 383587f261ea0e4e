/- Lemmas, in order: The engine: slices that are made empty, with room.. -/
import Derived.Test.YtccpgpnekoncoaaGreatQ12
namespace Go.Sy
open Go Go.Proofs Go.RowKit
section
variable {P : Program} {r : Option Nat} {all : Array Oper} {Q : Exit → Act → World → Prop} {rest : List Oper} {a : Act} {w w0 : World} {M : List Nat} {H : List (Nat × Obj)} {n : Nat} {ds : List Deferred} {L : List (Nat × Value)} {d : Nat} {ty : TypeId} {pos : String} {af : Array Edge} {gd : Option (Nat × Bool)}
theorem ops_make0 {t e : TypeId} {size bytes q : Nat} {z : Value} {kl kc : IntKind} {x y : Operand} (hf : Fr n ds L a) (hh : Hp w0 M H w) (ht : elemB P t = some (e, size, bytes, z)) (hx : ev L x = some (.int kl 0)) (hy : ev L y = some (.int kc (q : Nat)))
    (hb : bytes * q ≤ 281474976710656) (h63 : q ≤ maxLen) (hg : GOn all L ⟨some d, .makeSlice t x y, ty, pos, af, gd⟩) (hn : Nat.blt d n = true)
    (k : ∀ (v : Value) (X : List (Nat × Obj)) (a : Act) (w : World), OwnSl e size v 0 [] X → Fr n ds ((d, v) :: L) a → Hp w0 M (X ++ H) w → OpsW P r all Q rest a w) : OpsW P r all Q (⟨some d, .makeSlice t x y, ty, pos, af, gd⟩ :: rest) a w := by
  have key : (Instr.makeSlice t (.int kl 0) (.int kc (q : Nat))).run P w = .ok (.slice (some ⟨w.heap.size, 0, none⟩) 0 q) { w with heap := w.heap.push (.cells (madeCells z.cells (q * size)) e) } ∧ z.cells.size = size := by
    unfold elemB at ht
    split at ht
    · rename_i e0 hu
      split at ht
      · rename_i i hi
        split at ht
        · rename_i z0 hz
          split at ht
          · rename_i hzs
            simp only [Option.some.injEq, Prod.mk.injEq] at ht
            obtain ⟨rfl, rfl, rfl, rfl⟩ := ht
            have hb' : (i.bytes : Int) * ((q : Nat) : Int) ≤ 281474976710656 := by
              have h : ((i.bytes * q : Nat) : Int) ≤ 281474976710656 := by omega
              rwa [Int.natCast_mul] at h
            have h := run_make w t e0 i z0 hu hi hz kl kc (0 : Int) ((q : Nat) : Int) (Int.le_refl _) (Int.natCast_nonneg _) hb' (by simp only [maxLen] at h63; omega)
            simp only [Int.toNat_natCast] at h
            exact ⟨h, hzs.1⟩
          · cases ht
        · cases ht
      · cases ht
    · cases ht
  obtain ⟨hr, hz⟩ := key
  have h1 := hf.agree x _ hx; have h2 := hf.agree y _ hy
  refine opsW_value (hg.wanted hf) rfl (v := .slice (some ⟨w.heap.size, 0, none⟩) 0 q) (w' := { w with heap := w.heap.push (.cells (madeCells z.cells (q * size)) e) }) ?_ (k _ [(w.heap.size, _)] _ _ ⟨by simp, .inr ⟨w.heap.size, q, _, rfl, rfl, Nat.zero_le _, h63, ?_, by simp⟩⟩ (hf.put (blt_lt hn) _) (hh.alloc _))
  · simp [execOp, h1, h2, hr]
  · exact size_madeCells _ _
end
end Go.Sy

