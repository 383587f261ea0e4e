/- Lemmas, in order: Values behind a slice; a slice of one's own grows by them. The engine: slices cut at their lower end.. -/
import Derived.Test.YtemmhdgaagaglaaDoorQ14
namespace Go.Sy
open Go Go.Proofs Go.RowKit
/-- Cells behind a slice. -/
def ValsIn (w : World) (sa : Option Addr) (vs : List Value) : Prop := vs = [] ∨ ∃ blk off c T fr, sa = some ⟨blk, off, none⟩ ∧ w.heap[blk]? = some (.cells c T fr) ∧ ∀ j v, vs[j]? = some v → c[off + j]? = some v
section
variable {P : Program} {r : Option Nat} {all : Array Oper} {Q : Exit → Act → World → Prop} {rest : List Oper} {a : Act} {w w0 : World} {M : List Nat} {H : List (Nat × Obj)} {n : Nat} {ds : List Deferred} {L : List (Nat × Value)} {v : Value} {d : Nat}
  {ty : TypeId} {pos : String} {af : Array Edge} {gd : Option (Nat × Bool)}
theorem ops_appendV {t : TypeId} {e size bytes : Nat} {z : Value} {x y : Operand} {m q : Nat} {xs news : List Value} {X Z : List (Nat × Obj)} {sa : Option Addr} {cq : Nat} (hf : Fr n ds L a) (hh : Hp w0 M (X ++ Z) w)
    (ht : elemB P t = some (e, size, bytes, z)) (hx : ev L x = some v) (hy : ev L y = some (.slice sa q cq)) (ho : OwnSl e size v m xs X) (hM : ValsIn w sa news) (hl : news.length = q * size) (hs : 0 < size) (h1 : news.all (·.oneCell') = true)
    (h63 : m + q ≤ maxLen) (hby : (m + q) * bytes ≤ 140737488355328) (hg : GOn all L ⟨some d, .call ⟨.builtin .append, #[x, y], #[t, t]⟩, ty, pos, af, gd⟩) (hn : Nat.blt d n = true)
    (k : ∀ (v' : Value) (X' : List (Nat × Obj)) (a : Act) (w : World), OwnSl e size v' (m + q) (xs ++ news) X' → Fr n ds ((d, v') :: L) a → Hp w0 M (X' ++ Z) w → OpsW P r all Q rest a w) :
    OpsW P r all Q (⟨some d, .call ⟨.builtin .append, #[x, y], #[t, t]⟩, ty, pos, af, gd⟩ :: rest) a w := by
  rcases hM with h0 | ⟨blk, off, c, T, fr, h1', h2, h3⟩
  · subst h0
    have hq : q = 0 := by
      rw [List.length_nil] at hl
      rcases Nat.eq_zero_or_pos q with h | h
      · exact h
      · have := Nat.mul_pos h hs; omega
    subst hq
    exact ops_append0 hf hh ht hx hy ho hg hn fun a w hf hh => k v X a w (by simpa using ho) hf hh
  · subst h1'
    refine ops_appendS hf hh ht hx hy ho (fun j u hj => ?_) hl h1 h63 hby hg hn k
    rw [add_spot]
    simp [World.cell?, h2, h3 j u hj]
end
end Go.Sy
namespace Go.Sy
open Go Go.Proofs Go.RowKit
section
variable {P : Program} {C : World → Prop} {L : List (Nat × Value)} {dd : Option Tmp} {ty : TypeId} {pos : String} {af : Array Edge} {gd : Option (Nat × Bool)}
/-- A slice cut at its lower end, where something of it is left. -/
theorem yv_cutLo {t e : TypeId} {sz : Nat} {x l : Operand} {a : Addr} {n c m : Nat} (ht : sliceElem P t = some (e, sz)) (hx : ev L x = some (.slice (some a) n c)) (hl : ev L l = some (.int .i64 (m : Nat))) (hm : m ≤ n) (hc : m < c) :
    Yv P C L ⟨dd, .slice t x (some l) none none, ty, pos, af, gd⟩ (.slice (some (a.add (m * sz))) (n - m) (c - m)) := fun ρ hρ w _ => by
  unfold sliceElem at ht
  split at ht
  · rename_i e' he
    cases hin : P.info? e' with
    | none => rw [hin] at ht; simp at ht
    | some inf =>
      have hs : inf.size = sz := by rw [hin] at ht; simp at ht; exact ht.2
      have hb : (0 : Int) ≤ (m : Int) ∧ (m : Int) ≤ (n : Int) := ⟨Int.natCast_nonneg _, by omega⟩
      have hcm : ¬ c = m := by omega
      simp [execOp, hρ _ _ hx, hρ _ _ hl, Instr.sliceAt, Instr.slice, run_underlying he, Instr.sliceBounds, Instr.sliceBound, asIntOf, hb, hcm, hm, sizeOf, typeInfo, hin, hs]
  · simp at ht
/-- A slice cut at its lower end, with nothing behind it. -/
theorem yv_cutLoE {t e : TypeId} {sz : Nat} {x l : Operand} {a : Option Addr} {n c m : Nat} (ht : sliceElem P t = some (e, sz)) (hx : ev L x = some (.slice a n c)) (hl : ev L l = some (.int .i64 (m : Nat))) (hm : m ≤ n) (hc : m = c) :
    Yv P C L ⟨dd, .slice t x (some l) none none, ty, pos, af, gd⟩ (.slice a (n - m) (c - m)) := fun ρ hρ w _ => by
  unfold sliceElem at ht
  split at ht
  · rename_i e' he
    cases hin : P.info? e' with
    | none => rw [hin] at ht; simp at ht
    | some inf =>
      have hb : (0 : Int) ≤ (m : Int) ∧ (m : Int) ≤ (n : Int) := ⟨Int.natCast_nonneg _, by omega⟩
      have hcm : c = m := hc.symm
      simp [execOp, hρ _ _ hx, hρ _ _ hl, Instr.sliceAt, Instr.slice, run_underlying he, Instr.sliceBounds, Instr.sliceBound, asIntOf, hb, hcm, hm, sizeOf, typeInfo, hin]
  · simp at ht
/-- A slice cut at its lower end, in any case. -/
theorem yv_lo {t e : TypeId} {sz : Nat} {x l : Operand} {a : Option Addr} {n c m : Nat} (ht : sliceElem P t = some (e, sz)) (hx : ev L x = some (.slice a n c)) (hl : ev L l = some (.int .i64 (m : Nat))) (hm : m ≤ n) :
    Yv P C L ⟨dd, .slice t x (some l) none none, ty, pos, af, gd⟩ (.slice (if c = m then a else a.map (·.add (m * sz))) (n - m) (c - m)) := fun ρ hρ w _ => by
  unfold sliceElem at ht
  split at ht
  · rename_i e' he
    cases hin : P.info? e' with
    | none => rw [hin] at ht; simp at ht
    | some inf =>
      have hs : inf.size = sz := by rw [hin] at ht; simp at ht; exact ht.2
      have hb : (0 : Int) ≤ (m : Int) ∧ (m : Int) ≤ (n : Int) := ⟨Int.natCast_nonneg _, by omega⟩
      simp [execOp, hρ _ _ hx, hρ _ _ hl, Instr.sliceAt, Instr.slice, run_underlying he, Instr.sliceBounds, Instr.sliceBound, asIntOf, hb, hm, sizeOf, typeInfo, hin, hs]
  · simp at ht
end
end Go.Sy
