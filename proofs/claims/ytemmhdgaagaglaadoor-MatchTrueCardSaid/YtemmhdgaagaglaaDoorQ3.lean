/- Lemmas, in order: The engine: room for a slice, slices cut, parts of arrays by value; maps by keys of three numbers.. -/
import Derived.Test.YtemmhdgaagaglaaDoorQ2
import Derived.Lib.AppendZeros
namespace Go.Sy
open Go Go.Proofs Go.RowKit
section
variable {P : Program} {C : World → Prop} {L : List (Nat × Value)} {dd : Option Tmp} {ty : TypeId} {pos : String} {af : Array Edge} {gd : Option (Nat × Bool)}
theorem yv_cap {t : TypeId} {x : Operand} {a : Option Addr} {n c : Nat} {e : TypeId × Nat} (ht : sliceElem P t = some e) (hx : ev L x = some (.slice a n c)) :
    Yv P C L ⟨dd, .call ⟨.builtin .cap, #[x], #[t]⟩, ty, pos, af, gd⟩ (.int .i64 c) := fun ρ hρ w _ => by
  unfold sliceElem at ht
  split at ht
  · rename_i e' he
    simp [execOp, resolve, invoke, builtin, hρ _ _ hx, Builtin.cap_, run_underlying he, goInt]
  · simp at ht
theorem add_zero (a : Addr) : a.add 0 = a := by
  unfold Addr.add
  split <;> simp_all
/-- A slice cut at its upper end. -/
theorem yv_cutHi {t e : TypeId} {sz : Nat} {x h : Operand} {a : Option Addr} {n c m : Nat} (ht : sliceElem P t = some (e, sz)) (hx : ev L x = some (.slice a n c)) (hh : ev L h = some (.int .i64 (m : Nat))) (hm : m ≤ c) :
    Yv P C L ⟨dd, .slice t x none (some h) none, ty, pos, af, gd⟩ (.slice a m c) := fun ρ hρ w _ => by
  unfold sliceElem at ht
  split at ht
  · rename_i e' he
    cases hin : P.info? e' with
    | none => rw [hin] at ht; simp at ht
    | some inf =>
      have hb : (0 : Int) ≤ (m : Int) ∧ (m : Int) ≤ (c : Int) := ⟨Int.natCast_nonneg _, by omega⟩
      have ha : (if c = 0 then a else a.map fun x => x.add 0) = a := by
        split
        · rfl
        · cases a <;> simp [add_zero]
      have hcm : ¬ c < m := by omega
      simp [execOp, hρ _ _ hx, hρ _ _ hh, Instr.sliceAt, Instr.slice, run_underlying he, Instr.sliceBounds, Instr.sliceBound, asIntOf, hb, hcm, sizeOf, typeInfo, hin, ha]
  · simp at ht
theorem yv_quoT {t t' : TypeId} {x y : Operand} {p q : Int} (hx : ev L x = some (.int .i64 p)) (hy : ev L y = some (.int .i64 q)) (hq : q ≠ 0) (h1 : -9223372036854775808 ≤ p.tdiv q) (h2 : p.tdiv q ≤ 9223372036854775807) :
    Yv P C L ⟨dd, .binOp .quo t x y t', ty, pos, af, gd⟩ (.int .i64 (p.tdiv q)) := fun ρ hρ w _ => by
  simp [execOp, hρ _ _ hx, hρ _ _ hy, run_eqGuard_int, binOp, Op.intDiv, hq, wrap_i64 (n := p.tdiv q) (by omega) (by omega)]
theorem spl_one (c : Array Value) {off : Nat} (v : Value) (h : off < c.size) : spl c off [v] = c.setIfInBounds off v := by
  apply Array.ext'
  unfold spl
  rw [Array.toList_setIfInBounds, List.set_eq_take_append_cons_drop, if_pos (by simpa using h)]
  simp
end
section
variable {P : Program} {r : Option Nat} {all : Array Oper} {Q : Exit → Act → World → Prop} {rest : List Oper} {a : Act} {w w0 : World} {M : List Nat} {H : List (Nat × Obj)} {n : Nat} {ds : List Deferred} {L : List (Nat × Value)} {v : Value} {d : Nat}
  {ty : TypeId} {pos : String} {af : Array Edge} {gd : Option (Nat × Bool)}
/-- Room for things, made from nothing. -/
theorem ops_room {t tn : TypeId} {e size bytes : Nat} {z : Value} {k' : IntKind} {x y : Operand} {q : Nat} (hf : Fr n ds L a) (hh : Hp w0 M H w)
    (ht : elemB P t = some (e, size, bytes, z)) (htn : P.underlying tn = some (.int k')) (hx : ev L x = some (.slice none 0 0)) (hy : ev L y = some (.int .i64 (q : Nat))) (h0 : 0 < q) (h63 : q ≤ maxLen) (hby : q * bytes ≤ 140737488355328)
    (hg : GOn all L ⟨some d, .call ⟨.builtin .append, #[x, y], #[t, tn]⟩, ty, pos, af, gd⟩) (hn : Nat.blt d n = true)
    (k : ∀ (B cap : Nat) (cur : Array Value) (a : Act) (w : World), cur.size = cap * size → q ≤ cap → cap ≤ maxLen → Fr n ds ((d, .slice (some ⟨B, 0, none⟩) q cap) :: L) a → Hp w0 M ((B, .cells cur e (0, 0)) :: H) w → OpsW P r all Q rest a w) :
    OpsW P r all Q (⟨some d, .call ⟨.builtin .append, #[x, y], #[t, tn]⟩, ty, pos, af, gd⟩ :: rest) a w := by
  unfold elemB at ht
  split at ht
  · rename_i e0 hu
    split at ht
    · rename_i i hi
      split at ht
      · rename_i z0 hz
        split at ht
        · rename_i hzs
          simp only [Option.some.injEq, Prod.mk.injEq] at ht
          obtain ⟨rfl, rfl, rfl, rfl⟩ := ht
          have hr := Lib.run_append_nil_zeros (P := P) w t tn ty e0 i z0 .i64 k' hu htn hi hz q h0 (by omega) (by simp only [maxLen] at h63; omega) (by omega)
          have hal := (hh.drawn (w.drawn + 1)).alloc (.cells (Builtin.zeroCells z0.cells q ++ Builtin.zeroCells z0.cells (grownCap w q 0 e0 - q)) e0 (0, 0))
          have hge := grownCap_ge w q 0 e0
          refine opsW_value (hg.wanted hf) rfl ?_ (k w.heap.size (grownCap w q 0 e0) _ _ _ ?_ hge (grownCap_le_maxLen w q 0 e0 h63) (hf.put (blt_lt hn) _) hal)
          · simp only [execOp, resolve, invoke, builtin, Sem.run_bind, Sem.run_pure, Result.andThen_ok, List.map_toArray, List.map_cons, List.map_nil, hf.agree _ _ hx, hf.agree _ _ hy, hr]
            rfl
          · simp only [Array.size_append, size_zeroCells, hzs.1, ← Nat.add_mul]
            congr 1; omega
        · simp at ht
      · simp at ht
    · simp at ht
  · simp at ht
/-- A slice of one's own, and nothing more. -/
theorem ops_append0 {t : TypeId} {e size bytes : Nat} {z : Value} {x y : Operand} {m : Nat} {xs : List Value} {X Z : List (Nat × Obj)} (hf : Fr n ds L a) (hh : Hp w0 M (X ++ Z) w)
    (ht : elemB P t = some (e, size, bytes, z)) (hx : ev L x = some v) {sy : Option Addr} {cq : Nat} (hy : ev L y = some (.slice sy 0 cq)) (ho : OwnSl e size v m xs X)
    (hg : GOn all L ⟨some d, .call ⟨.builtin .append, #[x, y], #[t, t]⟩, ty, pos, af, gd⟩) (hn : Nat.blt d n = true)
    (k : ∀ (a : Act) (w : World), Fr n ds ((d, v) :: L) a → Hp w0 M (X ++ Z) w → OpsW P r all Q rest a w) :
    OpsW P r all Q (⟨some d, .call ⟨.builtin .append, #[x, y], #[t, t]⟩, ty, pos, af, gd⟩ :: rest) a w := by
  obtain ⟨hxl, hown⟩ := ho
  unfold elemB at ht
  split at ht
  · rename_i e0 hu
    split at ht
    · rename_i i hi
      have hgo : ∀ (v' : Value) (w' : World), (Builtin.append_ #[t, t] ty #[v, .slice sy 0 cq]).run P w = .ok v' w' →
          (execOp a.eval ⟨some d, .call ⟨.builtin .append, #[x, y], #[t, t]⟩, ty, pos, af, gd⟩).run P w = .ok (.value v') w' := fun v' w' hr => by
        simp only [execOp, resolve, invoke, builtin, Sem.run_bind, Sem.run_pure, Result.andThen_ok, List.map_toArray, List.map_cons, List.map_nil, hf.agree _ _ hx, hf.agree _ _ hy, hr]
      refine opsW_value (hg.wanted hf) rfl (hgo v w ?_) (k _ _ (hf.put (blt_lt hn) _) hh)
      rcases hown with ⟨rfl, rfl, rfl⟩ | ⟨B, cap, cur, rfl, rfl, h3, h4, h5, h6⟩
      · cases sy <;> simp [Builtin.append_, run_underlying hu, sizeOf, typeInfo, hi, Builtin.lenOf, Builtin.firstCells, loadCells, loadCellsFrom]
      · cases sy <;> simp [Builtin.append_, run_underlying hu, sizeOf, typeInfo, hi, Builtin.lenOf, Builtin.firstCells, loadCells, loadCellsFrom, storeCells, h3]
    · simp at ht
  · simp at ht
end
end Go.Sy
