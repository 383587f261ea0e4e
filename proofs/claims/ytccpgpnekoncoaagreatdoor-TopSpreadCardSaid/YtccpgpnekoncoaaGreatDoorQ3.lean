/- Lemmas, in order: The engine: memory, calls, control. The engine: regions whose order is open and that end in effects; ranges over functions; maps; rows that grow. The engine: scopes, ranges over functions, what a call leaves behind, results in cells. How many bits are set: the library's way of counting, on numbers below 65536; the lowest bit. The engine: loops that leave marks; memo maps; unsigned numbers; rows that grow. The engine: values that are built; slices that grow. Equality of structs of three integers. Worlds with a memo map whose entries grow. Regions whose order is open, with effects: operations of one value may come at any time beside them. The engine: equality of bools; one bit of a number. The engine: a slice of one's own grows by another slice; a point at which several ways meet. The engine, in short: the same steps, with what is decided by computing left to default tactics. The engine: room for a slice, slices cut, parts of arrays by value; maps by keys of three numbers. Regions whose order is open, with several effects that may come: a tree of orders. Memo maps whose keys are structs of three integers. An element of an array that is a value; blocks that hold a grid of integers. Regions whose order is open: a tree of orders; each look at memory with a class of worlds of its own; operations that look at nothing are free. Equality of values that are made of integers alone: structs, arrays, and those inside one another. What a row is handed, opened: values of integers alone, slices of them. What a call that leaves all old blocks as they were answers for. Remainders of numbers of any kind; slices that a row is handed, opened. Values behind a slice; a slice of one's own grows by them. The engine: slices cut at their lower end. The engine: the room of a slice that a row is handed. The engine: a callee that turns blocks which it is handed; lists of slices. The engine: slices that are made. The engine: panics, and calls that are deferred. The engine: iterators with blocks of their own; ranges over them. The engine: a deferred closure that recovers and calls; interfaces. The engine: how a function leaves that defers a closure which recovers. Maps whose keys are arrays of integers; maps of values of any kind. Blocks that hold what they held, and that the rounds of a range do not turn. Ranges over iterators with blocks of their own, where the rounds turn known blocks alone. What an iterator knows between two yields: its own blocks, and those that the rounds turn. A call of a method of an interface value. The end of a function that may panic, behind the marks of its ranges. And of any number with one that is not less than nought. Maps that hold a set of keys; ranges over them, in whatever order. A bit of a set that is kept without a sign; sets of such bits. The entry that a range over a map is at; a map that is laid out; a step of a range, both ways at once. Blocks picked by their places; a block's contents named; blocks of old that a round does not turn. An. -/
import Derived.Test.YtccpgpnekoncoaaGreatDoorQ2
import Derived.StillTail
import Derived.KernelRfl
import Derived.Laws.StructEq
import Derived.Lib.AppendZeros
import Derived.ChangeKeysEq
import Derived.Deep.Slices
import Derived.Deep.Strs
import Derived.ChangeSame
import Derived.ChangeVars
import Derived.RowKitTokens
import Derived.WideKeyArgs
import Derived.WideShapes
import Derived.Laws.MakeOwn
import Derived.RecoverIn
import Derived.Maps.RangeRun
import Derived.Shelf.SlSortCmp.Whole1
namespace Go.Sy
open Go Go.Proofs Go.RowKit

/-! ### Types -/
def scalB (P : Program) (t : TypeId) : Bool :=
  match P.underlying t with
  | some (.struct _) | some (.array _ _) | none => false
  | some _ => true
def aggB (P : Program) (t : TypeId) : Option Nat :=
  match P.underlying t with
  | some (.struct _) | some (.array _ _) => (P.info? t).map (·.size)
  | _ => none
def fieldOff (P : Program) (t : TypeId) (f : Nat) : Option Nat :=
  match P.underlying t with
  | some (.struct fs) => match fs[f]? with
    | some fl => match P.info? fl.type with
      | some i => if i.size = 0 then none else some fl.offset
      | none => none
    | none => none
  | _ => none
def sliceElem (P : Program) (t : TypeId) : Option (TypeId × Nat) :=
  match P.underlying t with
  | some (.slice e) => (P.info? e).map fun i => (e, i.size)
  | _ => none
def arrayElem (P : Program) (t : TypeId) : Option (Nat × TypeId × Nat) :=
  match P.underlying t with
  | some (.array n e) => (P.info? e).map fun i => (n, e, i.size)
  | _ => none
def zeroOf (P : Program) (t : TypeId) : Option Value := (P.info? t).bind (·.zero)

section
variable {P : Program} {w : World} {t : TypeId}
theorem run_isAgg_scal (h : scalB P t = true) : (isAgg t).run P w = .ok false w := by
  unfold scalB at h
  cases hd : P.underlying t with
  | none => rw [hd] at h; simp at h
  | some d => cases d <;> simp_all [isAgg, run_underlying hd]
theorem run_isAgg_agg {k : Nat} (h : aggB P t = some k) : (isAgg t).run P w = .ok true w ∧ (sizeOf t).run P w = .ok k w := by
  unfold aggB at h
  cases hd : P.underlying t with
  | none => rw [hd] at h; simp at h
  | some d => cases d <;> simp_all [isAgg, run_underlying hd, sizeOf, typeInfo] <;> (obtain ⟨i, h1, h2⟩ := h; simp [h1, h2])
theorem run_zero {v : Value} (h : zeroOf P t = some v) : (zeroValue t).run P w = .ok v w := by
  unfold zeroOf at h
  cases hi : P.info? t with
  | none => rw [hi] at h; simp at h
  | some i => rw [hi] at h; simp at h; simp [zeroValue, typeInfo, hi, h]
end

def cellsAt (c : Array Value) : Nat → Nat → Option (List Value)
  | _, 0 => some []
  | off, k + 1 => match c[off]? with
    | some v => match cellsAt c (off + 1) k with
      | some vs => some (v :: vs)
      | none => none
    | none => none

theorem cellsAt_get {c : Array Value} : ∀ (k off : Nat) (vs : List Value), cellsAt c off k = some vs → vs.length = k ∧ ∀ j v, vs[j]? = some v → c[off + j]? = some v
  | 0, off, vs, h => by simp [cellsAt] at h; subst h; simp
  | k + 1, off, vs, h => by
    simp only [cellsAt] at h
    split at h
    · rename_i v hv
      split at h
      · rename_i us hus
        simp at h; subst h
        obtain ⟨h1, h2⟩ := cellsAt_get k (off + 1) us hus
        refine ⟨by simp [h1], fun j u hj => ?_⟩
        cases j with
        | zero => simp at hj; subst hj; exact hv
        | succ j => have := h2 j u (by simpa using hj); rwa [show off + (j + 1) = off + 1 + j by omega]
      · simp at h
    · simp at h

theorem add_spot (b off k : Nat) : (⟨b, off, none⟩ : Addr).add k = ⟨b, off + k, none⟩ := by unfold Addr.add; split <;> simp_all

abbrev ptr (b off : Nat) : Value := .pointer (some ⟨b, off, none⟩)

section
variable {P : Program} {C : World → Prop} {L : List (Nat × Value)} {dd : Option Tmp} {ty : TypeId} {pos : String} {af : Array Edge} {gd : Option (Nat × Bool)}

theorem yv_load {t : TypeId} {x : Operand} {b off : Nat} {c : Array Value} {e : TypeId} {fr : Nat × Nat} {v : Value} (ht : scalB P t = true) (hx : ev L x = some (ptr b off))
    (hb : ∀ w, C w → w.heap[b]? = some (.cells c e fr)) (hv : c[off]? = some v) : Yv P C L ⟨dd, .load t x, ty, pos, af, gd⟩ v := fun ρ hρ w hw => by
  have hc : w.cell? ⟨b, off, none⟩ = some v := by simp [World.cell?, hb w hw, hv]
  simp [execOp, hρ _ _ hx, Instr.loadAt, Instr.sureAddr, loadVar, run_isAgg_scal ht, hc]

theorem yv_loads {t : TypeId} {k : Nat} {x : Operand} {b off : Nat} {c : Array Value} {e : TypeId} {fr : Nat × Nat} {vs : List Value} (ht : aggB P t = some k) (hx : ev L x = some (ptr b off))
    (hb : ∀ w, C w → w.heap[b]? = some (.cells c e fr)) (hv : cellsAt c off k = some vs) : Yv P C L ⟨dd, .load t x, ty, pos, af, gd⟩ (.agg vs.toArray) := fun ρ hρ w hw => by
  obtain ⟨h1, h2⟩ := cellsAt_get k off vs hv
  obtain ⟨h3, h4⟩ := run_isAgg_agg (w := w) ht
  have h5 := run_loadCells_list (P := P) w ⟨b, off, none⟩ vs (fun j v hj => by rw [add_spot]; simp [World.cell?, hb w hw, h2 j v hj])
  rw [h1] at h5
  simp [execOp, hρ _ _ hx, Instr.loadAt, Instr.sureAddr, loadVar, h3, h4, h5]

theorem yv_fieldAddr {t : TypeId} {x : Operand} {f k b off : Nat} (ht : fieldOff P t f = some k) (hx : ev L x = some (ptr b off)) : Yv P C L ⟨dd, .fieldAddr t x f, ty, pos, af, gd⟩ (ptr b (off + k)) := fun ρ hρ w _ => by
  unfold fieldOff at ht
  split at ht
  · rename_i fs hfs
    split at ht
    · rename_i fl hfl
      split at ht
      · rename_i i hi
        split at ht
        · simp at ht
        · rename_i hz
          simp at ht
          simp [execOp, hρ _ _ hx, Instr.fieldAt, Instr.sureAddr, run_underlying hfs, hfl, fieldPlace, sizeOf, typeInfo, hi, hz, add_spot, ht]
      · simp at ht
    · simp at ht
  · simp at ht

theorem yv_indexAddr {t e : TypeId} {sz : Nat} {x i : Operand} {b off len cap : Nat} {k : IntKind} {j : Int} (ht : sliceElem P t = some (e, sz)) (hx : ev L x = some (.slice (some ⟨b, off, none⟩) len cap))
    (hi : ev L i = some (.int k j)) (h0 : 0 ≤ j) (h1 : j < len) : Yv P C L ⟨dd, .indexAddr t x i, ty, pos, af, gd⟩ (ptr b (off + j.toNat * sz)) := fun ρ hρ w _ => by
  unfold sliceElem at ht
  split at ht
  · rename_i e' he
    cases hin : P.info? e' with
    | none => rw [hin] at ht; simp at ht
    | some inf =>
      rw [hin] at ht; simp at ht
      obtain ⟨rfl, rfl⟩ := ht
      simp [execOp, hρ _ _ hx, hρ _ _ hi, Instr.indexAt, asIntOf, run_underlying he, h0, h1, sizeOf, typeInfo, hin, add_spot]
  · simp at ht

theorem yv_indexArr {t e : TypeId} {m sz : Nat} {x i : Operand} {b off : Nat} {k : IntKind} {j : Int} (ht : arrayElem P t = some (m, e, sz)) (hx : ev L x = some (ptr b off))
    (hi : ev L i = some (.int k j)) (h0 : 0 ≤ j) (h1 : j < m) : Yv P C L ⟨dd, .indexAddr t x i, ty, pos, af, gd⟩ (ptr b (off + j.toNat * sz)) := fun ρ hρ w _ => by
  unfold arrayElem at ht
  split at ht
  · rename_i n' e' he
    cases hin : P.info? e' with
    | none => rw [hin] at ht; simp at ht
    | some inf =>
      rw [hin] at ht; simp at ht
      obtain ⟨rfl, rfl, rfl⟩ := ht
      simp [execOp, hρ _ _ hx, hρ _ _ hi, Instr.indexAt, Instr.sureAddr, asIntOf, run_underlying he, h0, h1, sizeOf, typeInfo, hin, add_spot]
  · simp at ht

theorem yv_field {t : TypeId} {x : Operand} {f : Nat} {cs : Array Value} {fs : Array Field} {fl : Field} {v : Value} (ht : P.underlying t = some (.struct fs)) (hf : fs[f]? = some fl) (hs : scalB P fl.type = true)
    (hx : ev L x = some (.agg cs)) (hv : cs[fl.offset]? = some v) : Yv P C L ⟨dd, .field t x f, ty, pos, af, gd⟩ v := fun ρ hρ w _ => by
  simp [execOp, hρ _ _ hx, Instr.field, run_underlying ht, hf, asAgg, part, run_isAgg_scal hs, hv]
theorem yv_fields {t : TypeId} {x : Operand} {f k : Nat} {cs : Array Value} {fs : Array Field} {fl : Field} {v : Array Value} (ht : P.underlying t = some (.struct fs)) (hf : fs[f]? = some fl) (hs : aggB P fl.type = some k)
    (hx : ev L x = some (.agg cs)) (hv : cs.extract fl.offset (fl.offset + k) = v) : Yv P C L ⟨dd, .field t x f, ty, pos, af, gd⟩ (.agg v) := fun ρ hρ w _ => by
  obtain ⟨h3, h4⟩ := run_isAgg_agg (w := w) hs
  simp [execOp, hρ _ _ hx, Instr.field, run_underlying ht, hf, asAgg, part, h3, h4, hv]

theorem yv_extract {x : Operand} {i : Nat} {vs : Array Value} {v : Value} (hx : ev L x = some (.tuple vs)) (hv : vs[i]? = some v) : Yv P C L ⟨dd, .extract x i, ty, pos, af, gd⟩ v := fun ρ hρ w _ => by
  simp [execOp, hρ _ _ hx, Instr.extract, hv]

theorem yv_nilCheck {x : Operand} {b off : Nat} (hx : ev L x = some (ptr b off)) : Yv P C L ⟨dd, .nilCheck x, ty, pos, af, gd⟩ (ptr b off) := fun ρ hρ w _ => by
  simp [execOp, hρ _ _ hx]

def evs (L : List (Nat × Value)) : List Operand → Option (List Value)
  | [] => some []
  | x :: xs => match ev L x with
    | some v => match evs L xs with
      | some vs => some (v :: vs)
      | none => none
    | none => none

theorem evs_map {L : List (Nat × Value)} {ρ : Operand → Value} (hρ : Agree L ρ) : ∀ (xs : List Operand) (vs : List Value), evs L xs = some vs → xs.map ρ = vs
  | [], vs, h => by simp [evs] at h; simp [h]
  | x :: xs, vs, h => by
    simp only [evs] at h
    split at h
    · rename_i v hv
      split at h
      · rename_i us hus
        simp at h; subst h
        simp [hρ _ _ hv, evs_map hρ xs us hus]
      · simp at h
    · simp at h

theorem yv_makeFunc {fn : Fn} {first captured : List Operand} {fs cs : List Value} (hf : evs L first = some fs) (hc : evs L captured = some cs) :
    Yv P C L ⟨dd, .makeFunc fn first.toArray captured.toArray, ty, pos, af, gd⟩ (.func fn fs.toArray cs.toArray) := fun ρ hρ w _ => by
  simp [execOp, Instr.makeFunc, evs_map hρ _ _ hf, evs_map hρ _ _ hc]

theorem yv_len {t : TypeId} {x : Operand} {a : Option Addr} {n c : Nat} {e : TypeId × Nat} (ht : sliceElem P t = some e) (hx : ev L x = some (.slice a n c)) :
    Yv P C L ⟨dd, .call ⟨.builtin .len, #[x], #[t]⟩, ty, pos, af, gd⟩ (.int .i64 n) := fun ρ hρ w _ => by
  unfold sliceElem at ht
  split at ht
  · rename_i e' he
    simp [execOp, resolve, invoke, builtin, hρ _ _ hx, Builtin.len_, run_underlying he, goInt]
  · simp at ht

theorem yv_max {ts : Array TypeId} {x y : Operand} {k : IntKind} {p q : Int} (hx : ev L x = some (.int k p)) (hy : ev L y = some (.int k q)) :
    Yv P C L ⟨dd, .call ⟨.builtin .max, #[x, y], ts⟩, ty, pos, af, gd⟩ (.int k (max p q)) := fun ρ hρ w _ => by
  simp [execOp, resolve, invoke, builtin, hρ _ _ hx, hρ _ _ hy, Builtin.max_, Builtin.max2]
  split <;> omega
theorem yv_min {ts : Array TypeId} {x y : Operand} {k : IntKind} {p q : Int} (hx : ev L x = some (.int k p)) (hy : ev L y = some (.int k q)) :
    Yv P C L ⟨dd, .call ⟨.builtin .min, #[x, y], ts⟩, ty, pos, af, gd⟩ (.int k (min p q)) := fun ρ hρ w _ => by
  simp [execOp, resolve, invoke, builtin, hρ _ _ hx, hρ _ _ hy, Builtin.min_, Builtin.min2]
  split <;> omega

/-- Values of parts, in their order. -/
def evp (L : List (Nat × Value)) : List (Nat × Operand) → Option (List (Nat × Value))
  | [] => some []
  | (i, x) :: xs => match ev L x with
    | some v => match evp L xs with
      | some vs => some ((i, v) :: vs)
      | none => none
    | none => none
theorem evp_map {L : List (Nat × Value)} {ρ : Operand → Value} (hρ : Agree L ρ) : ∀ (xs : List (Nat × Operand)) (vs : List (Nat × Value)), evp L xs = some vs → xs.map (fun p => (p.1, ρ p.2)) = vs
  | [], vs, h => by simp [evp] at h; simp [h]
  | (i, x) :: xs, vs, h => by
    simp only [evp] at h
    split at h
    · rename_i v hv
      split at h
      · rename_i us hus
        simp at h; subst h
        have ih := evp_map hρ xs us hus
        simp [hρ _ _ hv, ih]
      · simp at h
    · simp at h

end

/-! ### Operations that turn the world -/
section
variable {P : Program} {r : Option Nat} {all : Array Oper} {Q : Exit → Act → World → Prop} {rest : List Oper} {a : Act} {w w0 : World} {M : List Nat} {H : List (Nat × Obj)} {n : Nat} {ds : List Deferred} {L : List (Nat × Value)} {v : Value} {d : Nat}
  {ty : TypeId} {pos : String} {af : Array Edge} {gd : Option (Nat × Bool)}

theorem ops_box {t : TypeId} {x : Operand} (hf : Fr n ds L a) (hh : Hp w0 M H w) (hx : ev L x = some v) (hg : GOn all L ⟨some d, .box t x, ty, pos, af, gd⟩) (hn : Nat.blt d n = true)
    (k : ∀ (B : Nat) (a : Act) (w : World), Fr n ds ((d, ptr B 0) :: L) a → Hp w0 M ((B, .cells v.cells t) :: H) w → OpsW P r all Q rest a w) : OpsW P r all Q (⟨some d, .box t x, ty, pos, af, gd⟩ :: rest) a w := by
  refine opsW_value (w' := { w with heap := w.heap.push (.cells v.cells t) }) (v := ptr w.heap.size 0) (hg.wanted hf) rfl ?_ ?_
  · simp only [execOp, hf.agree _ _ hx]; rfl
  · exact k w.heap.size _ _ (hf.put (blt_lt hn) _) (hh.alloc _)

theorem ops_alloc {t : TypeId} (hf : Fr n ds L a) (hh : Hp w0 M H w) (hz : zeroOf P t = some v) (hg : GOn all L ⟨some d, .alloc t, ty, pos, af, gd⟩) (hn : Nat.blt d n = true)
    (k : ∀ (B : Nat) (a : Act) (w : World), Fr n ds ((d, ptr B 0) :: L) a → Hp w0 M ((B, .cells v.cells t) :: H) w → OpsW P r all Q rest a w) : OpsW P r all Q (⟨some d, .alloc t, ty, pos, af, gd⟩ :: rest) a w := by
  refine opsW_value (w' := { w with heap := w.heap.push (.cells v.cells t) }) (v := ptr w.heap.size 0) (hg.wanted hf) rfl ?_ ?_
  · simp only [execOp, Instr.alloc, Sem.run_bind, run_zero hz, Result.andThen_ok]; rfl
  · exact k w.heap.size _ _ (hf.put (blt_lt hn) _) (hh.alloc _)

/-- A row with values laid over its cells from a place on. -/
def spl (c : Array Value) (off : Nat) (vs : List Value) : Array Value := (c.toList.take off ++ vs ++ c.toList.drop (off + vs.length)).toArray

theorem ext_setRow (w : World) (g : Nat) (cs : Array Value) : Ext [g] w (w.setRow g cs) :=
  ⟨rfl, rfl, rfl, by simp, Nat.le_refl _, fun k _ hk => setRow_other w g k cs (by simpa using hk)⟩

theorem run_storeAt {t e : TypeId} {k b off : Nat} {c : Array Value} (hb : w.heap[b]? = some (.cells c e (0, 0))) (hk : ((P.info? t).map (·.size)) = some k) (hv : v.cells.size = k) (h1 : v.cells.toList.all (·.oneCell') = true) (hl : off + k ≤ c.size) :
    (Instr.storeAt t (ptr b off) v).run P w = .ok () (w.setRow b (spl c off v.cells.toList)) := by
  cases hi : P.info? t with
  | none => rw [hi] at hk; simp at hk
  | some i =>
    rw [hi] at hk; simp at hk
    have h := run_storeCells_at P b off e v.cells.toList 0 c w hb (by simp [hv]; omega) (List.all_eq_true.1 h1)
    simp only [Nat.add_zero] at h
    simp [Instr.storeAt, Instr.sureAddr, storeVar, sizeOf, typeInfo, hi, hk, hv, h, spl]

theorem ops_store {t e : TypeId} {x y : Operand} {k b off i : Nat} {c : Array Value} (hf : Fr n ds L a) (hh : Hp w0 M H w) (hx : ev L x = some (ptr b off)) (hi : H[i]? = some (b, .cells c e (0, 0)))
    (hy : ev L y = some v) (hk : ((P.info? t).map (·.size)) = some k) (hv : v.cells.size = k) (h1 : v.cells.toList.all (·.oneCell') = true) (hl : Nat.ble (off + k) c.size = true)
    (hg : GOn all L ⟨none, .store t x y, ty, pos, af, gd⟩)
    (K : ∀ (w : World), Hp w0 M (H.set i (b, .cells (spl c off v.cells.toList) e (0, 0))) w → OpsW P r all Q rest a w) : OpsW P r all Q (⟨none, .store t x y, ty, pos, af, gd⟩ :: rest) a w := by
  have hb := hh.at hi
  refine opsW_skip (w' := w.setRow b (spl c off v.cells.toList)) (hg.wanted hf) rfl ?_ ?_
  · have := run_storeAt (P := P) (t := t) (v := v) hb hk hv h1 (Nat.le_of_ble_eq_true hl)
    simp only [execOp, hf.agree _ _ hx, hf.agree _ _ hy]
    simp [this]
  · exact K _ (hh.turn hi (ext_setRow _ _ _) (setRow_heap _ _ _ _ _ _ hb))

theorem run_call {ρ : Operand → Value} {fop : Operand} {args : List Operand} {ats : Array TypeId} {dd : Option Tmp} {f : FuncId} {fs cs : Array Value} {vs : List Value} (hρ : Agree L ρ) (hE : Enters P f)
    (hfv : ev L fop = some (.func (.func f) fs cs)) (hargs : evs L args = some vs) : (execOp ρ ⟨dd, .call ⟨.value fop, args.toArray, ats⟩, ty, pos, af, gd⟩).run P w = .ok (.enter f (fs ++ vs.toArray ++ cs)) w := by
  simp [execOp, resolve, Deferred.ofValue, invoke, hρ _ _ hfv, evs_map hρ _ _ hargs, hE _ w]

theorem ops_call {fop : Operand} {args : List Operand} {ats : Array TypeId} {f : FuncId} {fs cs : Array Value} {vs : List Value} {av : Array Value} {R : Value → World → Prop} (hf : Fr n ds L a) (hE : Enters P f)
    (hfv : ev L fop = some (.func (.func f) fs cs)) (hargs : evs L args = some vs) (hav : fs ++ vs.toArray ++ cs = av) (hg : GOn all L ⟨some d, .call ⟨.value fop, args.toArray, ats⟩, ty, pos, af, gd⟩) (hn : Nat.blt d n = true)
    (hc : Calls P f av w (Ret R)) (k : ∀ (v : Value) (a : Act) (w : World), R v w → Fr n ds ((d, v) :: L) a → OpsW P r all Q rest a w) :
    OpsW P r all Q (⟨some d, .call ⟨.value fop, args.toArray, ats⟩, ty, pos, af, gd⟩ :: rest) a w := by
  subst hav
  refine opsW_enter (hg.wanted hf) rfl (run_call hf.agree hE hfv hargs) ((callsIn_wide (n := 0)).2 hc) fun v w'' hR => ?_
  exact k v _ w'' hR (hf.put (blt_lt hn) v)

/-- A call that hands back one value in whatever world of the class, and stays in it. -/
theorem q_call {C : World → Prop} {Q : Act → Prop} {fop : Operand} {args : List Operand} {ats : Array TypeId} {f : FuncId} {fs cs : Array Value} {vs : List Value} {av : Array Value} (hf : Fr n ds L a) (hE : Enters P f)
    (hfv : ev L fop = some (.func (.func f) fs cs)) (hargs : evs L args = some vs) (hav : fs ++ vs.toArray ++ cs = av) (hg : GOn all L ⟨some d, .call ⟨.value fop, args.toArray, ats⟩, ty, pos, af, gd⟩) (hn : Nat.blt d n = true)
    (hc : ∀ w, C w → Calls P f av w (Ret fun u w' => u = v ∧ C w')) (k : ∀ (a : Act), Fr n ds ((d, v) :: L) a → wpQuiet P all C Q rest a) :
    wpQuiet P all C Q (⟨some d, .call ⟨.value fop, args.toArray, ats⟩, ty, pos, af, gd⟩ :: rest) a := by
  subst hav
  simp only [wpQuiet, hg.wanted hf, if_true]
  refine ⟨v, fun w hw => ?_, k _ (hf.put (blt_lt hn) v)⟩
  unfold Oper.quietAt
  rw [run_call hf.agree hE hfv hargs]
  exact ⟨rfl, (hc w hw).mono fun e w' he => by cases e <;> first | exact ⟨by rw [he.1], he.2⟩ | exact he.elim⟩
end

/-! ### Control -/
section
variable {P : Program} {r : Option Nat} {Q : Exit → Act → World → Prop} {a : Act} {w : World}
theorem sy_seq {x y : Code} (h : WP P r x (Exit.then (WP P r y Q) Q) a w) : WP P r (.seq x y) Q a w := wpIn_seq h
theorem sy_block {id : Nat} {c : Code} (h : WP P r c (Exit.inBlock id Q) a w) : WP P r (.block id c) Q a w := wpIn_block h
theorem sy_skip (h : Q .normal a w) : WP P r .skip Q a w := wpIn_skip h
theorem sy_exit {id : Nat} (h : Q (.exit id) a w) : WP P r (.exit id) Q a w := wpIn_exit h
theorem sy_ret (h : Q .ret a w) : WP P r .ret Q a w := wpIn_ret h
theorem sy_cond {n : Nat} {ds : List Deferred} {L : List (Nat × Value)} {c : Operand} {x y : Code} {b : Bool} (hf : Fr n ds L a) (hc : ev L c = some (.bool b))
    (ht : b = true → WP P r x Q a w) (hn : b = false → WP P r y Q a w) : WP P r (.cond c x y) Q a w := wpIn_cond_split (hf.agree _ _ hc) ht hn
theorem sy_mono {c : Code} {Q' : Exit → Act → World → Prop} (h : WP P r c Q a w) (hq : ∀ e a w, Q e a w → Q' e a w) : WP P r c Q' a w := wpIn_mono h hq

theorem then_n {K : Act → World → Prop} (h : K a w) : Exit.then K Q .normal a w := h
theorem then_e {K : Act → World → Prop} {id : Nat} (h : Q (.exit id) a w) : Exit.then K Q (.exit id) a w := h
theorem then_r {K : Act → World → Prop} (h : Q .ret a w) : Exit.then K Q .ret a w := h
theorem blk_n {id : Nat} (h : Q .normal a w) : Exit.inBlock id Q .normal a w := h
theorem blk_e {id : Nat} (h : Q .normal a w) : Exit.inBlock id Q (.exit id) a w := by simp [Exit.inBlock, h]
theorem blk_x {id j : Nat} (hne : Nat.beq j id = false) (h : Q (.exit j) a w) : Exit.inBlock id Q (.exit j) a w := by
  have : ¬ j = id := fun e => by subst e; simp at hne
  simp [Exit.inBlock, this, h]
theorem blk_r {id : Nat} (h : Q .ret a w) : Exit.inBlock id Q .ret a w := h

/-- A region whose order is open, all of it quiet in a class. -/
theorem wpIn_of_quiet {C : World → Prop} {o : Oper} {K : Act → Prop} {K' : Act → World → Prop} {Q' : Exit → Act → World → Prop} (hd : isDefer o.op = false) (hw : C w) (h : ∀ a w', C w' → K a → K' a w') (hh : o.quiet P a C K) : o.wpIn (FR r) 0 P a w K' Q' := by
  obtain ⟨v, h1, h2⟩ := hh
  have h3 := h1 w hw
  unfold Oper.quietAt at h3
  refine ⟨fun _ _ => trivial, ?_⟩
  rw [semAt_of hd]
  generalize (execOp a.eval o).run P w = res at *
  cases res with
  | ok nx w' =>
    cases nx <;> simp only [Oper.quietUpon] at h3 <;> simp only [Oper.uponIn]
    case value u =>
      obtain ⟨e1, e2⟩ := h3
      rw [e1, e2]; exact h _ _ hw h2
    case skip =>
      obtain ⟨e1, e2⟩ := h3
      rw [e1, ← e2]; exact h _ _ hw h2
    case enter f args =>
      obtain ⟨e1, hc⟩ := h3
      rw [e1]
      exact ⟨depth_triv r 0, ((callsIn_wide (n := 0)).2 hc : CallsIn (FR r) 0 P f args w _).mono fun e w'' ⟨he, hw''⟩ => by subst he; exact h _ _ hw'' h2⟩
  | halt x w' => simp only [Oper.quietUpon] at h3

def noDefer (ops : Array Oper) : Bool := ops.toList.all fun o => !isDefer o.op
theorem noDefer_get {ops : Array Oper} (h : noDefer ops = true) {i : Nat} {o : Oper} (hi : ops[i]? = some o) : isDefer o.op = false := by
  have := List.all_eq_true.1 h o (Array.mem_toList_iff.2 (Array.mem_of_getElem? hi))
  simpa using this

theorem wpOpIn_of_qOp {C : World → Prop} {ops : Array Oper} (hnd : noDefer ops = true) {i : Nat} {K : Act → Prop} {K' : Act → World → Prop} {Q' : Exit → Act → World → Prop} (hC : C w) (h : ∀ a w', C w' → K a → K' a w') (hh : qOp P ops C i K a) : wpOpIn (FR r) 0 P ops Q' i K' a w := by
  unfold qOp at hh
  unfold wpOpIn
  split
  · rename_i ho; simp only [ho] at hh; exact h _ _ hC hh
  · rename_i o ho
    simp only [ho] at hh
    split
    · rename_i hw; simp only [hw, if_true] at hh; exact wpIn_of_quiet (noDefer_get hnd ho) hC h hh
    · rename_i hw; simp only [hw] at hh; exact ⟨fun _ _ => trivial, h _ _ hC hh⟩

theorem wpAnyIn_of_quiet {C : World → Prop} {ops : Array Oper} {md : Region.Mode} (hnd : noDefer ops = true) {Q : Act → Prop} {Q' : Exit → Act → World → Prop} (hQ : ∀ a w, C w → Q a → Q' .normal a w) : ∀ (fuel : Nat) (listed : Array Bool) (a : Act) (w : World), C w →
    wpAnyQ P md ops C Q fuel listed a → wpAnyIn (FR r) 0 P md ops Q' fuel listed a w
  | 0, _, _, _, hw, h => ⟨h.1, hQ _ _ hw h.2⟩
  | fuel + 1, _, _, _, hw, h => ⟨fun h0 => hQ _ _ hw (h.1 h0), fun i hi => wpOpIn_of_qOp hnd hw (fun a' w' hw' => wpAnyIn_of_quiet hnd hQ fuel _ a' w' hw') (h.2 i hi)⟩

theorem sy_quiet {C : World → Prop} {id : Nat} {l : List Oper} (hm : P.follows .mixedOrders = true) (hB : (Region.lexB .any l.toArray && noDefer l.toArray) = true) (hC : C { w with drawn := w.drawn + 1 })
    (h : wpQuiet P l.toArray C (fun a' => ∀ w', C w' → Q .normal a' w') l a) : WP P r (.region id l.toArray true) Q a w := by
  simp only [Region.lexB, Bool.and_eq_true] at hB
  refine wpIn_region_any hm (wpAnyIn_of_quiet hB.2 (Q := fun a' => ∀ w', C w' → Q .normal a' w') (fun _ w' hw' h => h w' hw') _ _ _ _ hC ?_)
  have := wpAnyQ_lex (C := C) (md := .any) hB.1.1 l 0 (Array.replicate l.toArray.size false) a (by simp) (by simpa using hB.1.2) h
  simpa using this
end

/-! ### Functions -/
section
variable {P : Program} {a : Act} {w : World} {n : Nat} {L : List (Nat × Value)}

theorem calls_of {f : FuncId} {fn : Func} {c : Code} {vs : List Value} {R : Value → World → Prop} (hf : P.funcs[f]? = some fn) (hb : fn.body = some c) (hn : Nat.ble vs.length fn.ntmps = true)
    (h : ∀ a, Fr fn.ntmps [] (argL 0 vs) a → WP P none c (bodyPost P fn (Ret R)) a w) : Calls P f vs.toArray w (Ret R) :=
  (callsIn_wide (n := 0)).1 (callsIn_of_wp (F := FR none) hf hb trivial (h _ (Fr.enter vs fn.ntmps (Nat.le_of_ble_eq_true hn))) rfl)

def resT : List ResultVar → Option (List Operand)
  | [] => some []
  | .tmp t :: l => match resT l with
    | some xs => some (.tmp t :: xs)
    | none => none
  | .cell _ _ :: _ => none

def tup : List Value → Value
  | [v] => v
  | vs => .tuple vs.toArray

theorem run_results_tmps (tm : Array Value) (w : World) (f : ResultVar → Sem Value) (hf : ∀ t, f (.tmp t) = pure (tm.getD t undef)) : ∀ (l : List ResultVar) (xs : List Operand), resT l = some xs →
    (l.mapM f).run P w = .ok (xs.map ({ tmps := tm, defers := [] } : Act).eval) w
  | [], xs, h => by simp [resT] at h; subst h; simp
  | .tmp t :: l, xs, h => by
    simp only [resT] at h
    split at h
    · rename_i ys hys
      simp only [Option.some.injEq] at h; subst h
      have ih := run_results_tmps tm w f hf l ys hys
      simp only [List.mapM_cons, Sem.run_bind, hf, ih, Sem.run_pure, Result.andThen_ok, List.map_cons]
      rfl
    · simp at h
  | .cell _ _ :: l, xs, h => by simp [resT] at h

theorem run_results {fn : Func} {ds : List Deferred} {xs : List Operand} {vs : List Value} (hf : Fr n ds L a) (hr : resT fn.results.toList = some xs) (hv : evs L xs = some vs) :
    (results fn a.tmps).run P w = .ok (tup vs) w := by
  have h2 : xs.map ({ tmps := a.tmps, defers := [] } : Act).eval = vs := by
    have h3 : ({ tmps := a.tmps, defers := [] } : Act).eval = a.eval := funext fun x => by cases x <;> rfl
    rw [h3]; exact evs_map hf.agree _ _ hv
  unfold results
  rw [Sem.run_bind, Array.mapM_eq_mapM_toList, Sem.run_map, run_results_tmps a.tmps w _ (fun t => rfl) _ xs hr, h2]
  simp only [Result.andThen_ok, Sem.run_pure]
  congr 1
  match vs with
  | [] => rfl
  | [v] => rfl
  | u :: v :: l => simp [tup]

theorem ret_r {fn : Func} {R : Value → World → Prop} {xs : List Operand} {vs : List Value} (hf : Fr n [] L a) (hr : resT fn.results.toList = some xs) (hv : evs L xs = some vs) (h : R (tup vs) w) :
    bodyPost P fn (Ret R) .ret a w := ⟨hf.defers, _, run_results hf hr hv, h⟩
theorem ret_n {fn : Func} {R : Value → World → Prop} {xs : List Operand} {vs : List Value} (hf : Fr n [] L a) (hr : resT fn.results.toList = some xs) (hv : evs L xs = some vs) (h : R (tup vs) w) :
    bodyPost P fn (Ret R) .normal a w := ⟨hf.defers, _, run_results hf hr hv, h⟩
end
end Go.Sy
namespace Go.Sy
open Go Go.Proofs Go.RowKit
/-! ### Loops, with a state of their own; frames that forget -/
section
variable {P : Program} {r : Option Nat} {Q : Exit → Act → World → Prop}

theorem sy_loopG {σ : Type} {c : Code} (I : σ → Act → World → Prop) (μ : σ → Nat) (s0 : σ) {a : Act} {w : World} (h0 : I s0 a w)
    (round : ∀ s a w, I s a w → WP P r c (Exit.then (fun a' w' => ∃ s', I s' a' w' ∧ μ s' < μ s) Q) a w) : WP P r (.loop c) Q a w := by
  have key : ∀ n s a w, μ s ≤ n → I s a w → Code.roundsIn (FR r) 0 P c Q (n + 1) a w := by
    intro n
    induction n with
    | zero =>
      intro s a w hn hI
      refine wpIn_mono (round s a w hI) fun e a w he => ?_
      cases e <;> first | (obtain ⟨s', _, h2⟩ := he; omega) | exact he
    | succ n ih =>
      intro s a w hn hI
      refine wpIn_mono (round s a w hI) fun e a w he => ?_
      cases e <;> first | (obtain ⟨s', h1, h2⟩ := he; exact ih s' a w (by omega) h1) | exact he
  exact wpIn_loop_rounds (μ s0 + 1) (key (μ s0) s0 a w (Nat.le_refl _) h0)
end

def elemN (t : Nat) : List Nat → Bool
  | [] => false
  | s :: l => bif Nat.beq s t then true else elemN t l

def rmL (ms : List Nat) : List (Nat × Value) → List (Nat × Value)
  | [] => []
  | (s, v) :: L => bif elemN s ms then rmL ms L else (s, v) :: rmL ms L

theorem lk_rmL {ms : List Nat} : ∀ {L : List (Nat × Value)} {t : Nat}, elemN t ms = false → lk (rmL ms L) t = lk L t
  | [], t, _ => rfl
  | (s, v) :: L, t, ht => by
    simp only [rmL, lk]
    by_cases hs : s = t
    · subst hs; simp [ht, lk]
    · rw [beq_ne hs]
      cases h : elemN s ms <;> simp [lk, beq_ne hs, lk_rmL (L := L) ht]
theorem lk_rmL_in {ms : List Nat} : ∀ {L : List (Nat × Value)} {t : Nat}, elemN t ms = true → lk (rmL ms L) t = none
  | [], t, _ => rfl
  | (s, v) :: L, t, ht => by
    simp only [rmL]
    by_cases hs : s = t
    · subst hs; simp [ht, lk_rmL_in (L := L) ht]
    · cases h : elemN s ms <;> simp [lk, beq_ne hs, lk_rmL_in (L := L) ht]

/-- Beside the slots of ms, L tells what T tells. -/
def Keep (ms : List Nat) (T L : List (Nat × Value)) : Prop := ∀ t, elemN t ms = false → lk L t = lk T t

theorem Keep.base {ms : List Nat} {T : List (Nat × Value)} : Keep ms T T := fun _ _ => rfl
theorem Keep.cons {ms : List Nat} {T L : List (Nat × Value)} {d : Nat} {v : Value} (hd : elemN d ms = true) (h : Keep ms T L) : Keep ms T ((d, v) :: L) := fun t ht => by
  have : ¬ d = t := fun e => by subst e; rw [hd] at ht; cases ht
  simp only [lk, beq_ne this, cond_false]; exact h t ht
theorem Keep.app {ms : List Nat} {T L : List (Nat × Value)} : ∀ {W : List (Nat × Value)}, (W.all fun p => elemN p.1 ms) = true → Keep ms T L → Keep ms T (W ++ L)
  | [], _, h => h
  | (d, v) :: W, hw, h => by
    simp only [List.all_cons, Bool.and_eq_true] at hw
    exact Keep.cons hw.1 (Keep.app hw.2 h)
def subN (a b : List Nat) : Bool := a.all fun t => elemN t b
theorem elemN_iff {t : Nat} : ∀ {l : List Nat}, elemN t l = true ↔ t ∈ l
  | [] => by simp [elemN]
  | s :: l => by
    simp only [elemN]
    by_cases hs : s = t
    · subst hs; simp
    · simp [beq_ne hs, elemN_iff (l := l), Ne.symm hs]
theorem Keep.rm {ms ms' : List Nat} {T L : List (Nat × Value)} (hs : subN ms' ms = true) (h : Keep ms T L) : Keep ms T (rmL ms' L) := fun t ht => by
  have h1 : elemN t ms' = false := by
    cases h2 : elemN t ms' with
    | false => rfl
    | true =>
      have h3 := List.all_eq_true.1 hs t (elemN_iff.1 h2)
      rw [h3] at ht; cases ht
  rw [lk_rmL h1]; exact h t ht

/-- The frame at a loop's head: values of the slots that it turns, and the others as they were. -/
theorem Fr.head {n : Nat} {ds : List Deferred} {L L' ov : List (Nat × Value)} {ms : List Nat} {a : Act} (h : Fr n ds L' a) (ho : AllIn L' ov) (hk : Keep ms L L') : Fr n ds (ov ++ rmL ms L) a := by
  refine ⟨h.size, h.defers, fun t v ht => ?_⟩
  have key : ∀ K : List (Nat × Value), AllIn L' K → lk (K ++ rmL ms L) t = some v → lk L' t = some v := by
    intro K
    induction K with
    | nil =>
      intro _ h1
      rw [List.nil_append] at h1
      cases h2 : elemN t ms with
      | true => rw [lk_rmL_in h2] at h1; cases h1
      | false => rw [lk_rmL h2] at h1; rw [hk t h2]; exact h1
    | cons p K ih =>
      obtain ⟨s, u⟩ := p
      rintro ⟨h1, h2⟩ h3
      simp only [List.cons_append, lk] at h3
      by_cases hs : s = t
      · subst hs; simp at h3; rw [← h3]; exact h1
      · rw [beq_ne hs, cond_false] at h3; exact ih h2 h3
  exact h.get t v (key ov ho ht)

section
variable {P : Program} {r : Option Nat} {Q : Exit → Act → World → Prop} {n : Nat} {ds : List Deferred} {L : List (Nat × Value)} {a : Act} {w w0 : World} {M : List Nat} {H : List (Nat × Obj)}

/-- A loop that leaves all known blocks as they are. -/
theorem sy_loopF {σ : Type} {c : Code} (ms : List Nat) (ov : σ → List (Nat × Value)) (pr : σ → Prop) (μ : σ → Nat) (s0 : σ) (hf : Fr n ds L a) (hh : Hp w0 M H w) (h0 : AllIn L (ov s0)) (hp : pr s0)
    (round : ∀ s a w, pr s → Fr n ds (ov s ++ rmL ms L) a → Hp w0 M H w → WP P r c (Exit.then (fun a' w' => ∃ s', (pr s' ∧ Fr n ds (ov s' ++ rmL ms L) a' ∧ Hp w0 M H w') ∧ μ s' < μ s) Q) a w) : WP P r (.loop c) Q a w :=
  sy_loopG (fun s a w => pr s ∧ Fr n ds (ov s ++ rmL ms L) a ∧ Hp w0 M H w) μ s0 ⟨hp, hf.head h0 Keep.base, hh⟩ fun s a w h => round s a w h.1 h.2.1 h.2.2

/-- A loop that turns known blocks. -/
theorem sy_loopH {σ : Type} {c : Code} (ms : List Nat) (ov : σ → List (Nat × Value)) (hp : σ → World → Prop) (μ : σ → Nat) (s0 : σ) (hf : Fr n ds L a) (h0 : AllIn L (ov s0)) (hw : hp s0 w)
    (round : ∀ s a w, hp s w → Fr n ds (ov s ++ rmL ms L) a → WP P r c (Exit.then (fun a' w' => ∃ s', (hp s' w' ∧ Fr n ds (ov s' ++ rmL ms L) a') ∧ μ s' < μ s) Q) a w) : WP P r (.loop c) Q a w :=
  sy_loopG (fun s a w => hp s w ∧ Fr n ds (ov s ++ rmL ms L) a) μ s0 ⟨hw, hf.head h0 Keep.base⟩ fun s a w h => round s a w h.1 h.2

theorem guard_split {all : Array Oper} {ops : List Oper} {t : Nat} {c : Bool} (_hf : Fr n ds L a) (_h : lk L t = some (.bool c)) (h1 : c = true → OpsW P r all Q ops a w) (h2 : c = false → OpsW P r all Q ops a w) : OpsW P r all Q ops a w := by
  cases c
  · exact h2 rfl
  · exact h1 rfl
theorem guard_splitq {C : World → Prop} {Q : Act → Prop} {all : Array Oper} {ops : List Oper} {t : Nat} {c : Bool} (_hf : Fr n ds L a) (_h : lk L t = some (.bool c)) (h1 : c = true → wpQuiet P all C Q ops a) (h2 : c = false → wpQuiet P all C Q ops a) : wpQuiet P all C Q ops a := by
  cases c
  · exact h2 rfl
  · exact h1 rfl
end

theorem gon {all : Array Oper} {L : List (Nat × Value)} {o : Oper} {j t : Nat} {b c : Bool} (h1 : o.guard = some (j, b)) (h2 : (all[j]?).bind (·.dst) = some t) (h3 : lk L t = some (.bool c)) (h4 : c = b) : GOn all L o :=
  .inr ⟨j, b, t, h1, h2, h4 ▸ h3⟩
theorem goff {all : Array Oper} {L : List (Nat × Value)} {o : Oper} {j t : Nat} {b c : Bool} (h1 : o.guard = some (j, b)) (h2 : (all[j]?).bind (·.dst) = some t) (h3 : lk L t = some (.bool c)) (h4 : c = !b) : GOff all L o :=
  ⟨j, b, t, h1, h2, .inr ⟨c, h3, by subst h4; simp⟩⟩
theorem goffu {all : Array Oper} {L : List (Nat × Value)} {o : Oper} {j t : Nat} {b : Bool} (h1 : o.guard = some (j, b)) (h2 : (all[j]?).bind (·.dst) = some t) (h3 : lk L t = some undef) : GOff all L o :=
  ⟨j, b, t, h1, h2, .inl h3⟩
end Go.Sy
namespace Go.Sy
open Go Go.Proofs Go.RowKit
section
variable {P : Program} {r : Option Nat} {Q : Exit → Act → World → Prop} {n : Nat} {ds : List Deferred} {L : List (Nat × Value)} {a : Act} {w w0 : World} {M : List Nat} {H : List (Nat × Obj)}
theorem sy_ct {c : Operand} {x y : Code} {b : Bool} (hf : Fr n ds L a) (hc : ev L c = some (.bool b)) (hb : b = true) (h : WP P r x Q a w) : WP P r (.cond c x y) Q a w :=
  sy_cond hf hc (fun _ => h) (fun e => by rw [hb] at e; cases e)
theorem sy_cf {c : Operand} {x y : Code} {b : Bool} (hf : Fr n ds L a) (hc : ev L c = some (.bool b)) (hb : b = false) (h : WP P r y Q a w) : WP P r (.cond c x y) Q a w :=
  sy_cond hf hc (fun e => by rw [hb] at e; cases e) (fun _ => h)

theorem Calls.ret_mono {f : FuncId} {args : Array Value} {R R' : Value → World → Prop} (h : Calls P f args w (Ret R)) (hr : ∀ v w', R v w' → R' v w') : Calls P f args w (Ret R') :=
  h.mono fun e w' he => by cases e <;> first | exact hr _ _ he | exact he

theorem q_callE {all : Array Oper} {rest : List Oper} {v : Value} {d : Nat} {ty : TypeId} {pos : String} {af : Array Edge} {gd : Option (Nat × Bool)} {Q : Act → Prop} {fop : Operand} {args : List Operand} {ats : Array TypeId} {f : FuncId} {fs cs : Array Value} {vs : List Value} {av : Array Value} (hf : Fr n ds L a) (hE : Enters P f)
    (hfv : ev L fop = some (.func (.func f) fs cs)) (hargs : evs L args = some vs) (hav : fs ++ vs.toArray ++ cs = av) (hg : GOn all L ⟨some d, .call ⟨.value fop, args.toArray, ats⟩, ty, pos, af, gd⟩) (hn : Nat.blt d n = true)
    (hc : ∀ w, Hp w0 M H w → Calls P f av w (Ret fun u w' => u = v ∧ Ext [] w w')) (k : ∀ (a : Act), Fr n ds ((d, v) :: L) a → wpQuiet P all (Hp w0 M H) Q rest a) :
    wpQuiet P all (Hp w0 M H) Q (⟨some d, .call ⟨.value fop, args.toArray, ats⟩, ty, pos, af, gd⟩ :: rest) a :=
  q_call hf hE hfv hargs hav hg hn (fun w hw => Calls.ret_mono (hc w hw) fun _ _ h => ⟨h.1, hw.more h.2⟩) k
end
/-- What a guard that was decided says. -/
theorem gS : (∀ (p : Prop) [Decidable p], (decide p = true) = p) ∧ (∀ (p : Prop) [Decidable p], (decide p = false) = ¬p) ∧ (∀ a b : Int, (¬a < b) = (b ≤ a)) ∧ (∀ a b : Int, (¬a ≤ b) = (b < a)) ∧ (∀ b : Bool, ((!b) = true) = (b = false)) ∧ (∀ b : Bool, ((!b) = false) = (b = true)) :=
  ⟨fun _ _ => propext decide_eq_true_iff, fun _ _ => propext decide_eq_false_iff_not, fun _ _ => propext Int.not_lt, fun _ _ => propext Int.not_le, fun b => by cases b <;> simp, fun b => by cases b <;> simp⟩
end Go.Sy

namespace Go.Sy
open Go Go.Proofs Go.RowKit

section
variable {P : Program} {r : Option Nat} {ops : Array Oper} {md : Region.Mode} {C : World → Prop}

def wpAnyLQ (P : Program) (md : Region.Mode) (ops : Array Oper) (C : World → Prop) (n : Nat) (Lp : Array Bool → Act → Prop) : Nat → Array Bool → Act → Prop
  | 0, listed, a => Lp listed a
  | f + 1, listed, a => Region.ready md ops listed ≠ [] ∧ ∀ i ∈ Region.ready md ops listed, i < n ∧ qOp P ops C i (wpAnyLQ P md ops C n Lp f (listed.setIfInBounds i true)) a

theorem wpAnyIn_of_headQ (hnd : noDefer ops = true) {n g : Nat} {Lp : Array Bool → Act → Prop} {Q' : Exit → Act → World → Prop} (hL : ∀ listed a w, C w → Lp listed a → wpAnyIn (FR r) 0 P md ops Q' g listed a w) :
    ∀ (f : Nat) (listed : Array Bool) (a : Act) (w : World), C w → wpAnyLQ P md ops C n Lp f listed a → wpAnyIn (FR r) 0 P md ops Q' (f + g) listed a w
  | 0, listed, a, w, hw, h => by rw [Nat.zero_add]; exact hL _ _ _ hw h
  | f + 1, listed, a, w, hw, h => by
    rw [show f + 1 + g = (f + g) + 1 by omega]
    exact ⟨fun h0 => absurd h0 h.1, fun i hi => wpOpIn_of_qOp hnd hw (fun a' w' hw' h' => wpAnyIn_of_headQ hnd hL f _ a' w' hw' h') (h.2 i hi).2⟩

theorem wpAnyLQ_first {n i : Nat} {oi : Oper} {v : Value} {Lp : Array Bool → Act → Prop} (hi : ops[i]? = some oi) (hsel : ∀ (j : Nat) (o : Oper) cs b, ops[j]? = some o → o.op ≠ .select cs b)
    (hs : Region.sinkB md ops n = true) (hc : Region.chainB md ops n = true) (hn : n < ops.size) (hin : i < n)
    (hdone : ∀ listed a, Lp listed a → ∀ j ∈ Region.ready md ops listed, n ≤ j) :
    ∀ (f : Nat) (listed : Array Bool) (a : Act), HeadInv md ops n listed →
      (∀ j oj, ops[j]? = some oj → j ≠ i → listed.getD j true = false → (∀ e ∈ oj.after, Region.binds md e = true → e.on ≠ i) → oi.apart ops oj = true) →
      i ∈ Region.ready md ops listed → YieldsIn P ops C oi v a →
      wpAnyLQ P md ops C n Lp f (listed.setIfInBounds i true) (a.put oi.dst v) → wpAnyLQ P md ops C n Lp (f + 1) listed a := by
  intro f
  induction f with
  | zero =>
    intro listed a inv _ hr hy H
    have hun := (mem_ready.1 hr).1
    refine ⟨fun h => (by rw [h] at hr; cases hr), fun j hj => ?_⟩
    have hjn : j < n := by
      rcases Nat.lt_or_ge j n with h | h
      · exact h
      · exact absurd hj (tail_waits hs hc hn inv _ i rfl hin hun j h)
    refine ⟨hjn, ?_⟩
    by_cases hji : j = i
    · subst hji; exact hy.qOp hi H
    · have := hdone _ _ H j (ready_mono hj hji)
      omega
  | succ f ih =>
    intro listed a inv hfree hr hy H
    have hun := (mem_ready.1 hr).1
    refine ⟨fun h => (by rw [h] at hr; cases hr), fun j hj => ?_⟩
    have hjn : j < n := by
      rcases Nat.lt_or_ge j n with h | h
      · exact h
      · exact absurd hj (tail_waits hs hc hn inv _ i rfl hin hun j h)
    refine ⟨hjn, ?_⟩
    by_cases hji : j = i
    · subst hji; exact hy.qOp hi H
    · have h1 := (H.2 j (ready_mono hj hji)).2
      obtain ⟨hjun, oj, hoj, hall⟩ := mem_ready.1 hj
      have hnot : ∀ e ∈ oj.after, Region.binds md e = true → e.on ≠ i := fun e he hb heq => by
        have h1 := hall e he hb
        rw [heq, getD_both hun] at h1
        cases h1
      have h2 := qOp_put hoj (hfree j oj hoj hji hjun hnot) (fun cs b => hsel i oi cs b hi) (fun cs b => hsel j oj cs b hoj) hy h1
      have hfree' : ∀ k ok, ops[k]? = some ok → k ≠ i → (listed.setIfInBounds j true).getD k true = false →
          (∀ e ∈ ok.after, Region.binds md e = true → e.on ≠ i) → oi.apart ops ok = true := fun k ok hk hki hun hno => by
        refine hfree k ok hk hki ?_ hno
        by_cases hjk : j = k
        · subst hjk; exact hjun
        · rw [getD_set_ne true hjk] at hun; exact hun
      refine qOp_mono (fun a' h3 => ih (listed.setIfInBounds j true) a' (inv.set hj hjn) hfree' (ready_mono hr (Ne.symm hji)) h3.1 ?_) h2
      rw [Array.setIfInBounds_comm _ _ hji]
      exact h3.2

theorem wpAnyIn_of_seqW {Q' : Exit → Act → World → Prop} : ∀ (l : List Oper) (k : Nat) (listed : Array Bool) (a : Act) (w : World), (∀ j, l[j]? = ops[k + j]?) →
    Region.seqB md ops l.length k listed = true → OpsW P r ops Q' l a w → wpAnyIn (FR r) 0 P md ops Q' l.length listed a w
  | [], _, _, _, _, _, hB, h => ⟨by simpa [Region.seqB] using hB, h⟩
  | o :: l, k, listed, a, w, hl, hB, h => by
    have h0 : ops[k]? = some o := by simpa using (hl 0).symm
    simp only [List.length_cons, Region.seqB, Bool.and_eq_true, decide_eq_true_eq] at hB
    refine ⟨fun h1 => (by rw [hB.1] at h1; cases h1), fun i hi => ?_⟩
    rw [hB.1] at hi
    have hik : i = k := by simpa using hi
    subst hik
    have hw : wpOpIn (FR r) 0 P ops Q' i (OpsW P r ops Q' l) a w := by
      unfold wpOpIn
      simp only [h0]
      simp only [OpsW] at h
      split at h
      · rename_i hw; rw [if_pos hw]; exact h
      · rename_i hw; rw [if_neg hw]; exact ⟨fun _ _ => trivial, h⟩
    exact wpOpIn_mono (fun a' w' h' => wpAnyIn_of_seqW l (i + 1) _ a' w' (fun j => by have := hl (j + 1); simpa [Nat.add_assoc, Nat.add_comm 1 j] using this) hB.2 h') hw

theorem wpAnyLQ_lex {n g : Nat} {Lq : Act → Prop} (hsel : Region.noSelect ops = true) (hs : Region.sinkB md ops n = true) (hc : Region.chainB md ops n = true) (hn : n < ops.size) :
    ∀ (l : List Oper) (k : Nat) (listed : Array Bool) (a : Act), (∀ j, j < l.length → l[j]? = ops[k + j]?) → k + l.length = n → HeadInv md ops n listed →
    Region.lexHead md ops g l.length k listed = true → wpQuiet P ops C Lq l a →
    wpAnyLQ P md ops C n (fun listed' a' => Region.seqB md ops g n listed' = true ∧ Lq a') l.length listed a
  | [], k, listed, a, _, hk, _, hB, h => by
    have : k = n := by simpa using hk
    subst this
    exact ⟨by simpa [Region.lexHead] using hB, h⟩
  | o :: l, k, listed, a, hl, hk, inv, hB, h => by
    have h0 : ops[k]? = some o := by simpa using (hl 0 (by simp)).symm
    simp only [List.length_cons, Region.lexHead, Bool.and_eq_true] at hB
    obtain ⟨⟨hr, hf⟩, hB'⟩ := hB
    have hkn : k < n := by simp only [List.length_cons] at hk; omega
    have hr' : k ∈ Region.ready md ops listed := by simpa using hr
    have hst : qOp P ops C k (wpQuiet P ops C Lq l) a := by unfold qOp; simp only [h0]; exact h
    obtain ⟨v, hy, hK⟩ := yieldsIn_of_qOp h0 hst
    exact wpAnyLQ_first h0 (Region.noSelect_spec hsel) hs hc hn hkn (fun listed' a' hL => seqB_ready hL.1) l.length listed a inv (Region.free_spec h0 hf) hr' hy
      (wpAnyLQ_lex hsel hs hc hn l (k + 1) _ _ (fun j hj => by have := hl (j + 1) (by simp; omega); simpa [Nat.add_assoc, Nat.add_comm 1 j] using this) (by simp only [List.length_cons] at hk; omega) (inv.set hr' hkn) hB' hK)

/-- A region whose order is open: quiet operations first, in whatever order; the last ones in theirs. -/
theorem sy_tail {id : Nat} {Q : Exit → Act → World → Prop} {a : Act} {w : World} {l l1 l2 : List Oper} (n : Nat) (hm : P.follows .mixedOrders = true) (hB : (Region.lexTailB .any l.toArray n && noDefer l.toArray) = true)
    (h1 : l.take n = l1) (h2 : l.drop n = l2) (hC : C { w with drawn := w.drawn + 1 })
    (h : wpQuiet P l.toArray C (fun a' => ∀ w', C w' → OpsW P r l.toArray Q l2 a' w') l1 a) : WP P r (.region id l.toArray true) Q a w := by
  subst h1; subst h2
  simp only [Region.lexTailB, Bool.and_eq_true, decide_eq_true_eq] at hB
  obtain ⟨⟨⟨⟨⟨hsel, hn⟩, hs⟩, hc⟩, hlex⟩, hnd⟩ := hB
  have hn' : n < l.length := by simpa using hn
  have htl : (l.take n).length = n := by simp; omega
  have hdl : (l.drop n).length = l.toArray.size - n := by simp
  have inv0 : HeadInv .any l.toArray n (Array.replicate l.toArray.size false) :=
    ⟨by simp, fun j oj _ hl => (by rw [getD_replicate_false] at hl; cases hl), fun t _ ht => getD_in (by simpa using ht) (getD_replicate_false _ _)⟩
  have H := wpAnyLQ_lex (md := .any) (g := l.toArray.size - n) hsel hs hc hn (l.take n) 0 _ a (fun j hj => by
    have hj' : j < n := by rw [htl] at hj; exact hj
    simp [hj']) (by simpa using htl) inv0 (by rw [htl]; exact hlex) h
  refine wpIn_region_any hm ?_
  have := wpAnyIn_of_headQ (r := r) hnd (Q' := Q) (g := l.toArray.size - n) (fun listed a' w' hw' hL => by
    have := wpAnyIn_of_seqW (r := r) (md := .any) (Q' := Q) (l.drop n) n listed a' w' (fun j => by simp [List.getElem?_drop]) (by rw [hdl]; exact hL.1) (hL.2 w' hw')
    rwa [hdl] at this) _ _ _ _ hC H
  rw [htl, show n + (l.toArray.size - n) = l.toArray.size by omega] at this
  exact this
end

/-! ### Joining what a callee laid -/
theorem Hp.join {w0 : World} {M : List Nat} {H H' : List (Nat × Obj)} {w w' : World} (h : Hp w0 M H w) (h' : Hp w [] H' w') : Hp w0 M (H' ++ H) w' := by
  have hx := h.more h'.ext
  refine ⟨hx.ext, fun p hp => ?_, ?_, fun p hp => ?_⟩
  · rcases List.mem_append.1 hp with hp | hp
    · exact h'.get p hp
    · exact hx.get p hp
  · rw [List.map_append, List.nodup_append]
    refine ⟨h'.nodup, h.nodup, fun a ha b hb e => ?_⟩
    obtain ⟨p, hp, rfl⟩ := List.mem_map.1 ha
    obtain ⟨q, hq, rfl⟩ := List.mem_map.1 hb
    have h1 := h'.mine p hp
    have h2 := (Array.getElem?_eq_some_iff.1 (h.get q hq)).1
    simp only [List.not_mem_nil, or_false] at h1
    omega
  · rcases List.mem_append.1 hp with hp | hp
    · have := h'.mine p hp
      simp only [List.not_mem_nil, or_false] at this
      exact .inl (Nat.le_trans h.ext.size this)
    · exact h.mine p hp

theorem Hp.init1 {w : World} {b : Nat} {o : Obj} (h : w.heap[b]? = some o) : Hp w [b] [(b, o)] w :=
  ⟨.refl _ _, by simpa using h, by simp, by simp⟩
end Go.Sy

namespace Go.Sy
open Go Go.Proofs Go.RowKit

section
variable {P : Program} {r : Option Nat} {Q : Exit → Act → World → Prop} {a : Act} {w : World}

def noGoto (Q : Exit → Act → World → Prop) : Exit → Act → World → Prop
  | .goto _, _, _ => False
  | e, a, w => Q e a w
theorem ng_n (h : Q .normal a w) : noGoto Q .normal a w := h
theorem ng_r (h : Q .ret a w) : noGoto Q .ret a w := h
theorem sy_scope {c : Code} (h : WP P r c (noGoto Q) a w) : WP P r (.scope c) Q a w := by
  intro b k cs hro hb hr
  have h0 : (lone (b.atR a (.code (.scope c) :: k)) cs w).fenced P (FR r) := fenced_calm hb hr rfl
  obtain ⟨e, a₁, w₁, hq, harr⟩ := h b (.inScope c :: k) cs hro hb hr
  have s0 : step P (lone (b.atR a (.code (.scope c) :: k)) cs w) = .next (lone (b.atR a (.code c :: .inScope c :: k)) cs w) := step_lone_go (by simp [stepG, stepG.exec, Frame.atR])
  have s1 : ∀ a w, step P (lone (b.atR a (.inScope c :: k)) cs w) = .next (lone (b.atR a k) cs w) := fun a w => step_lone_go (by simp [stepG, stepG.exec, Frame.atR])
  cases e with
  | normal => exact ⟨.normal, a₁, w₁, hq, .head h0 s0 (StepsIn.trans harr (.one (fenced_calm hb hr rfl) (s1 _ _)))⟩
  | exit id =>
    have hx : exitTo id (.inScope c :: k) = exitTo id k := by simp [exitTo]
    exact ⟨.exit id, a₁, w₁, hq, fun k' hk => .head h0 s0 (harr.1 k' (by rw [hx]; exact hk)), fun hr' hk => let ⟨k₁, h1, h2⟩ := harr.2 hr' (by rw [hx]; exact hk); ⟨k₁, h1, .head h0 s0 h2⟩⟩
  | goto l => exact hq.elim
  | ret => exact ⟨_, a₁, w₁, hq, .of_steps (.one h0 s0) harr⟩
  | panic ch => exact ⟨_, a₁, w₁, hq, .of_steps (.one h0 s0) harr⟩
  | outgrown => exact ⟨_, a₁, w₁, hq, .of_steps (.one h0 s0) harr⟩
theorem sy_label {l : Nat} (h : Q .normal a w) : WP P r (.label l) Q a w := wpIn_label h
end

/-! ### Results, from slots and from cells -/
def ResAt (P : Program) (L : List (Nat × Value)) (w : World) : List ResultVar → List Value → Prop
  | [], [] => True
  | .tmp t :: l, v :: vs => lk L t = some v ∧ ResAt P L w l vs
  | .cell t ty :: l, v :: vs => (∃ b off c e fr, lk L t = some (ptr b off) ∧ w.heap[b]? = some (.cells c e fr) ∧
      ((scalB P ty = true ∧ c[off]? = some v) ∨ ∃ k us, aggB P ty = some k ∧ cellsAt c off k = some us ∧ v = .agg us.toArray)) ∧ ResAt P L w l vs
  | _, _ => False

theorem run_results_at {P : Program} {n : Nat} {ds : List Deferred} {L : List (Nat × Value)} {a : Act} {w : World} (hf : Fr n ds L a) (f : ResultVar → Sem Value)
    (h1 : ∀ t, f (.tmp t) = pure (a.tmps.getD t undef)) (h2 : ∀ t ty, f (.cell t ty) = (do loadVar ty (← asAddr (a.tmps.getD t undef)))) :
    ∀ (l : List ResultVar) (vs : List Value), ResAt P L w l vs → (l.mapM f).run P w = .ok vs w
  | [], [], _ => by simp
  | [], _ :: _, h => h.elim
  | .tmp t :: l, v :: vs, ⟨h, hr⟩ => by
    have ih := run_results_at hf f h1 h2 l vs hr
    have hv := hf.get t v h
    simp only [List.mapM_cons, Sem.run_bind, h1, ih, Sem.run_pure, Result.andThen_ok, hv]
  | .tmp t :: l, [], h => h.elim
  | .cell t ty :: l, v :: vs, ⟨⟨b, off, c, e, fr, hl, hb, h⟩, hr⟩ => by
    have ih := run_results_at hf f h1 h2 l vs hr
    have hv := hf.get t _ hl
    have hld : (loadVar ty ⟨b, off, none⟩).run P w = .ok v w := by
      rcases h with ⟨hs, hc⟩ | ⟨k, us, hs, hc, rfl⟩
      · have : w.cell? ⟨b, off, none⟩ = some v := by simp [World.cell?, hb, hc]
        simp [loadVar, run_isAgg_scal hs, this]
      · obtain ⟨e1, e2⟩ := cellsAt_get k off us hc
        obtain ⟨h3, h4⟩ := run_isAgg_agg (w := w) hs
        have h5 := run_loadCells_list (P := P) w ⟨b, off, none⟩ us (fun j v hj => by rw [add_spot]; simp [World.cell?, hb, e2 j v hj])
        rw [e1] at h5
        simp [loadVar, h3, h4, h5]
    simp only [List.mapM_cons, Sem.run_bind, h2, hv, asAddr, Sem.run_pure, Result.andThen_ok, hld, ih]
  | .cell t ty :: l, [], h => h.elim

theorem run_resultsC {P : Program} {n : Nat} {ds : List Deferred} {L : List (Nat × Value)} {a : Act} {w : World} {fn : Func} {vs : List Value} (hf : Fr n ds L a) (h : ResAt P L w fn.results.toList vs) :
    (results fn a.tmps).run P w = .ok (tup vs) w := by
  unfold results
  rw [Sem.run_bind, Array.mapM_eq_mapM_toList, Sem.run_map, run_results_at hf _ (fun t => rfl) (fun t ty => rfl) _ _ h]
  simp only [Result.andThen_ok, Sem.run_pure]
  congr 1
  match vs with
  | [] => rfl
  | [v] => rfl
  | u :: v :: l => simp [tup]

section
variable {P : Program} {a : Act} {w : World} {n : Nat} {L : List (Nat × Value)} {fn : Func} {R : Value → World → Prop}
theorem ret_c {vs : List Value} (hf : Fr n [] L a) (hr : ResAt P L w fn.results.toList vs) (h : R (tup vs) w) : bodyPost P fn (Ret R) .ret a w := ⟨hf.defers, _, run_resultsC hf hr, h⟩
/-! ### What a range over a function leaves behind -/
def mkd (Ds : List Nat) : List Deferred := Ds.map fun D => { target := .collected D, args := #[] }
def dls (Ds : List Nat) : List (Nat × Obj) := Ds.map fun D => (D, .deferred (some []))

theorem putObj_ext (w : World) (b : Nat) (o : Obj) : Ext [b] w (w.putObj b o) :=
  ⟨rfl, rfl, rfl, by simp [World.putObj], Nat.le_refl _, fun k _ hk => World.putObj_heap_other (by simpa using hk)⟩

theorem Hp.put {w0 : World} {M : List Nat} {H : List (Nat × Obj)} (h : Hp w0 M H w) {i b : Nat} {o : Obj} (hi : H[i]? = some (b, o)) (o' : Obj) : Hp w0 M (H.set i (b, o')) (w.putObj b o') :=
  h.turn hi (putObj_ext w b o') (World.putObj_heap_same (Array.getElem?_eq_some_iff.1 (h.at hi)).1)

theorem leaves_marks {w0 : World} {M : List Nat} (hf : Fr n [] L { a with defers := [] }) : ∀ (Ds : List Nat) (H : List (Nat × Obj)) (w : World), Hp w0 M (dls Ds ++ H) w →
    (∀ w', Hp w0 M H w' → ∃ vs, ResAt P L w' fn.results.toList vs ∧ R (tup vs) w') → LeavesInM (FR none) 0 P fn a.tmps (Ret R) (mkd Ds) .returning w
  | [], H, w, hh, k => by
    obtain ⟨vs, h1, h2⟩ := k w hh
    exact ⟨_, run_resultsC (a := { a with defers := [] }) hf h1, h2⟩
  | D :: Ds, H, w, hh, k => by
    have hi : (dls (D :: Ds) ++ H)[0]? = some (D, .deferred (some [])) := rfl
    refine ⟨by simp, .inl ⟨D, w.putObj D (.deferred none), rfl, run_takeDeferred (hh.at hi), ?_⟩⟩
    exact leaves_marks hf Ds H _ ((hh.put hi (.deferred none)).less (.cons _ (List.Sublist.refl _))) k

theorem ret_m {w0 : World} {M : List Nat} {H : List (Nat × Obj)} {Ds : List Nat} (hf : Fr n (mkd Ds) L a) (hh : Hp w0 M (dls Ds ++ H) w)
    (k : ∀ w', Hp w0 M H w' → ∃ vs, ResAt P L w' fn.results.toList vs ∧ R (tup vs) w') : bodyPostM (FR none) 0 P fn (Ret R) .ret a w := by
  have h := leaves_marks (fn := fn) (R := R) (P := P) (a := a) (L := L) (n := n) ⟨hf.size, rfl, hf.get⟩ Ds H w hh k
  show LeavesInM (FR none) 0 P fn a.tmps (Ret R) a.defers .returning w
  rw [hf.defers]; exact h
theorem calls_ofM {f : FuncId} {c : Code} {vs : List Value} (hf : P.funcs[f]? = some fn) (hb : fn.body = some c) (hn : Nat.ble vs.length fn.ntmps = true)
    (h : ∀ a, Fr fn.ntmps (mkd []) (argL 0 vs) a → WP P none c (bodyPostM (FR none) 0 P fn (Ret R)) a w) : Calls P f vs.toArray w (Ret R) :=
  (callsIn_wide (n := 0)).1 (callsIn_of_wp_marks (F := FR none) hf hb trivial (h _ (Fr.enter vs fn.ntmps (Nat.le_of_ble_eq_true hn))) rfl)
end

/-! ### Ranges over functions -/
abbrev rec0 (fn : Nat) (tmps : Array Value) (ps : Array Tmp) (asg body : Code) (D : Nat) (s : LoopState) (p : Option Code) : Loop :=
  { state := s, pending := p, fn := fn, tmps := tmps, params := ps, assign := asg, body := body, defers := D }

/-- A call of yield with these arguments runs one round. -/
def Yld (P : Program) (l : Nat) (args : Array Value) (w : World) (R : Value → World → Prop) : Prop :=
  ∃ rc : Loop, w.heap[l]? = some (.loop rc) ∧ args.size = rc.params.size ∧
    RoundIn (FR none) 0 P l rc.fn ((rc.params.zip args).foldl (fun tmps (t, a) => tmps.setIfInBounds t a) rc.tmps) rc.assign rc.body w (Ret R)

/-- An iterator: the function f, with what it has captured, hands these things to yield, one after the other, till a round says no. -/
def IterSpec (P : Program) (f : FuncId) (fs cs : Array Value) (xs : List (Array Value)) (Mem : World → Prop) : Prop :=
  ∀ (l : Nat) (J K : Nat → World → Prop) (w : World), (∀ k w, J k w → Mem w) → (∀ k w w', J k w → Ext [] w w' → J k w') → (∀ k w w', K k w → Ext [] w w' → K k w') →
    (∀ k w args, xs[k]? = some args → J k w → Yld P l args w (fun v w' => (v = .bool true ∧ J (k + 1) w') ∨ (v = .bool false ∧ K k w'))) →
    J 0 w → Calls P f (fs ++ #[.func (.yield l) #[] #[]] ++ cs) w (Ret fun _ w' => J xs.length w' ∨ ∃ k, K k w')

section
variable {P : Program} {r : Option Nat} {all : Array Oper} {rest : List Oper} {a : Act} {w : World} {n : Nat} {ds : List Deferred} {L : List (Nat × Value)} {d : Nat}
  {ty : TypeId} {pos : String} {af : Array Edge} {gd : Option (Nat × Bool)} {Q : Exit → Act → World → Prop}

/-- A call of yield. -/
theorem ops_yield {fop : Operand} {args : List Operand} {ats : Array TypeId} {l : Nat} {vs : List Value} {R : Value → World → Prop} (hf : Fr n ds L a)
    (hfv : ev L fop = some (.func (.yield l) #[] #[])) (hargs : evs L args = some vs) (hg : GOn all L ⟨some d, .call ⟨.value fop, args.toArray, ats⟩, ty, pos, af, gd⟩) (hn : Nat.blt d n = true)
    (hc : Yld P l vs.toArray w R) (k : ∀ (v : Value) (a : Act) (w : World), R v w → Fr n ds ((d, v) :: L) a → OpsW P r all Q rest a w) :
    OpsW P r all Q (⟨some d, .call ⟨.value fop, args.toArray, ats⟩, ty, pos, af, gd⟩ :: rest) a w := by
  obtain ⟨rc, h1, h2, h3⟩ := hc
  have hrun : (execOp a.eval ⟨some d, .call ⟨.value fop, args.toArray, ats⟩, ty, pos, af, gd⟩).run P w = .ok (.round l rc.fn ((rc.params.zip vs.toArray).foldl (fun tmps (t, a) => tmps.setIfInBounds t a) rc.tmps) rc.assign rc.body) w := by
    have := run_yield (P := P) h1 h2
    simp [execOp, resolve, Deferred.ofValue, invoke, hf.agree _ _ hfv, evs_map hf.agree _ _ hargs, this]
  simp only [OpsW, hg.wanted hf, if_true, Oper.wpIn, semAt_of (o := ⟨some d, .call ⟨.value fop, args.toArray, ats⟩, ty, pos, af, gd⟩) rfl]
  rw [hrun]
  exact ⟨fun _ _ => trivial, depth_triv r 0, (h3 : RoundIn (FR r) 0 P l rc.fn _ rc.assign rc.body w (Ret R)).mono fun e w'' he => by cases e <;> first | exact k _ _ _ he (hf.put (blt_lt hn) _) | exact he.elim⟩
end

def zipL : List Nat → List Value → List (Nat × Value)
  | t :: ts, v :: vs => (t, v) :: zipL ts vs
  | _, _ => []

theorem Fr.zip {n : Nat} {ds : List Deferred} : ∀ (ts : List Nat) (vs : List Value) (L : List (Nat × Value)) (a : Act), Fr n ds L a → (ts.all fun t => Nat.blt t n) = true → ts.length = vs.length →
    Fr n ds (zipL ts.reverse vs.reverse ++ L) { a with tmps := (ts.zip vs).foldl (fun tmps p => tmps.setIfInBounds p.1 p.2) a.tmps }
  | [], [], L, a, h, _, _ => h
  | t :: ts, v :: vs, L, a, h, hb, hl => by
    simp only [List.all_cons, Bool.and_eq_true] at hb
    have h1 := h.put (blt_lt hb.1) v
    have h2 := Fr.zip ts vs _ _ h1 hb.2 (by simpa using hl)
    have e : zipL (t :: ts).reverse (v :: vs).reverse ++ L = zipL ts.reverse vs.reverse ++ (t, v) :: L := by
      have key : ∀ (xs : List Nat) (bs : List Value), xs.length = bs.length → zipL (xs ++ [t]) (bs ++ [v]) = zipL xs bs ++ [(t, v)] := by
        intro xs
        induction xs with
        | nil => intro bs hb; cases bs with
          | nil => rfl
          | cons _ _ => simp at hb
        | cons x xs ih => intro bs hb; cases bs with
          | nil => simp at hb
          | cons y bs => simp [zipL, ih bs (by simpa using hb)]
      rw [List.reverse_cons, List.reverse_cons, key _ _ (by simpa using hl)]
      simp
    rw [e]; exact h2
  | [], _ :: _, _, _, _, _, hl => by simp at hl
  | _ :: _, [], _, _, _, _, hl => by simp at hl

/-- How a round may end. -/
def RoundEnd (w0 : World) (M : List Nat) (l : Nat) (bz : Loop) (D : Nat) (I : List (Nat × Obj) → Prop) (X : Code → List (Nat × Obj) → Prop) : Exit → Act → World → Prop
  | .normal, _, w => ∃ H, I H ∧ Hp w0 M ((l, .loop bz) :: (D, .deferred (some [])) :: H) w
  | .ret, _, w => ∃ H, X .ret H ∧ Hp w0 M ((l, .loop bz) :: (D, .deferred (some [])) :: H) w
  | .exit id, _, w => ∃ H, X (.exit id) H ∧ Hp w0 M ((l, .loop bz) :: (D, .deferred (some [])) :: H) w
  | _, _, _ => False

/-- What is asked behind the assignment to the loop's variables. -/
def Begun (P : Program) (l : Nat) (body : Code) (Q : Exit → Act → World → Prop) (a : Act) (w : World) : Prop :=
  ∃ w2, (Instr.beginRound l).run P w = .ok () w2 ∧ WP P (some l) body Q a w2

theorem begun {P : Program} {w0 : World} {M : List Nat} {H : List (Nat × Obj)} {l i : Nat} {body : Code} {Q : Exit → Act → World → Prop} {a : Act} {w : World} {fn D : Nat} {tmps : Array Value} {ps : Array Tmp} {asg bd : Code} {p : Option Code}
    (hh : Hp w0 M H w) (hi : H[i]? = some (l, .loop (rec0 fn tmps ps asg bd D .ready p)))
    (k : ∀ w, Hp w0 M (H.set i (l, .loop (rec0 fn tmps ps asg bd D .busy p))) w → WP P (some l) body Q a w) : Begun P l body Q a w :=
  ⟨_, run_beginRound (hh.at hi) rfl, k _ (hh.put hi _)⟩

section
variable {P : Program} {Q : Exit → Act → World → Prop} {a : Act} {w w0 : World} {M : List Nat} {H : List (Nat × Obj)} {n : Nat} {ds : List Deferred} {L : List (Nat × Value)}

theorem sy_range {g : Operand} {ps : List Tmp} {asg body : Code} {f : FuncId} {fs cs : Array Value} {xs : List (Array Value)} {Mem : World → Prop} (I : Nat → List (Nat × Obj) → Prop) (X : Nat → Code → List (Nat × Obj) → Prop)
    (hf : Fr n ds L a) (hh : Hp w0 M H w) (hE : Enters P f) (hg : ev L g = some (.func (.func f) fs cs)) (it : IterSpec P f fs cs xs Mem)
    (hps : (ps.all fun t => Nat.blt t n) = true) (hsz : ∀ x ∈ xs, x.size = ps.length)
    (hI0 : I 0 H) (hMem : ∀ k H l D o w, I k H → Hp w0 M ((l, o) :: (D, .deferred (some [])) :: H) w → Mem w)
    (hround : ∀ k x fn D l H w a' tm, xs[k]? = some x → I k H → Hp w0 M ((l, .loop (rec0 fn tm ps.toArray asg body D .ready none)) :: (D, .deferred (some [])) :: H) w → Fr n [] (zipL ps.reverse x.toList.reverse ++ L) a' →
      WP P (some l) asg (Exit.then (Begun P l body (RoundEnd w0 M l (rec0 fn tm ps.toArray asg body D .busy none) D (I (k + 1)) (X k))) (fun _ _ _ => False)) a' w)
    (hdone : ∀ D H a w, I xs.length H → Fr n ({ target := .collected D, args := #[] } :: ds) L a → Hp w0 M ((D, .deferred (some [])) :: H) w → Q .normal a w)
    (hstop : ∀ k c D H a w, X k c H → Fr n ({ target := .collected D, args := #[] } :: ds) L a → Hp w0 M ((D, .deferred (some [])) :: H) w → WP P none c Q a w) :
    WP P none (.rangeFunc g ps.toArray asg body) Q a w := by
  refine wpIn_rangeFunc fun fn _ => ?_
  have hres : ∀ l, (resolve a.eval (rangeCall g l) 0).run P ((w.alloc (.deferred (some []))).alloc (.loop (rec0 fn a.tmps ps.toArray asg body w.heap.size .ready none))) = .ok { target := .fn (.func f) cs, args := fs ++ #[.func (.yield l) #[] #[]] } ((w.alloc (.deferred (some []))).alloc (.loop (rec0 fn a.tmps ps.toArray asg body w.heap.size .ready none))) := by
    intro l
    have h0 := hf.agree _ _ hg
    simp only [resolve, h0, Deferred.ofValue, Sem.run_pure, List.map_toArray, List.map_cons, List.map_nil]
    rfl
  refine ⟨_, _, _, _, _, f, fs ++ #[.func (.yield (w.heap.size + 1)) #[] #[]] ++ cs, _, run_enterLoop_outer fn a.tmps ps.toArray asg body, hres _, fun _ _ => trivial, by simp only [invoke]; exact hE _ _, depth_triv none 0, ?_⟩
  have h2 : Hp w0 M ((w.heap.size + 1, .loop (rec0 fn a.tmps ps.toArray asg body w.heap.size .ready none)) :: (w.heap.size, .deferred (some [])) :: H) ((w.alloc (.deferred (some []))).alloc (.loop (rec0 fn a.tmps ps.toArray asg body w.heap.size .ready none))) := by
    have e1 := hh.alloc (.deferred (some []))
    have e2 := e1.alloc (.loop (rec0 fn a.tmps ps.toArray asg body w.heap.size .ready none))
    have e3 : ({ w with heap := w.heap.push (.deferred (some [])) } : World).heap.size = w.heap.size + 1 := by simp
    rw [e3] at e2
    exact e2
  generalize hl : w.heap.size + 1 = l at h2 ⊢
  generalize hD : w.heap.size = D at h2 ⊢
  generalize (w.alloc (.deferred (some []))).alloc (.loop (rec0 fn a.tmps ps.toArray asg body D .ready none)) = w1 at h2 ⊢
  let J : Nat → World → Prop := fun k w => ∃ H, I k H ∧ Hp w0 M ((l, .loop (rec0 fn a.tmps ps.toArray asg body D .ready none)) :: (D, .deferred (some [])) :: H) w
  let K : Nat → World → Prop := fun k w => ∃ c H, X k c H ∧ Hp w0 M ((l, .loop (rec0 fn a.tmps ps.toArray asg body D .done (some c))) :: (D, .deferred (some [])) :: H) w
  have hy : ∀ k w args, xs[k]? = some args → J k w → Yld P l args w (fun v w' => (v = .bool true ∧ J (k + 1) w') ∨ (v = .bool false ∧ K k w')) := by
    rintro k w args hx ⟨Hk, hIk, hw⟩
    have hlen : args.size = ps.length := hsz args (List.mem_of_getElem? hx)
    refine ⟨_, hw.at (i := 0) rfl, by simpa using hlen, ?_⟩
    have hfr : Fr n [] (zipL ps.reverse args.toList.reverse ++ L) { tmps := (ps.zip args.toList).foldl (fun tmps p => tmps.setIfInBounds p.1 p.2) a.tmps, defers := [] } :=
      Fr.zip ps args.toList L { a with defers := [] } ⟨hf.size, rfl, hf.get⟩ hps (by simpa using hlen.symm)
    have hfold : (ps.toArray.zip args).foldl (fun tmps (t, a) => tmps.setIfInBounds t a) a.tmps = (ps.zip args.toList).foldl (fun tmps p => tmps.setIfInBounds p.1 p.2) a.tmps := by
      rw [← Array.foldl_toList, Array.toList_zip]
    refine roundIn_of_wpIn trivial ?_
    have hr := hround k args fn D l Hk w _ a.tmps hx hIk hw hfr
    rw [show (rec0 fn a.tmps ps.toArray asg body D .ready none).params = ps.toArray from rfl, show (rec0 fn a.tmps ps.toArray asg body D .ready none).tmps = a.tmps from rfl, hfold]
    refine wpIn_mono hr fun e a1 w1 he => ?_
    cases e with
    | normal =>
      obtain ⟨w2, hb, hbody⟩ := he
      refine ⟨w2, hb, wpIn_mono hbody fun e a2 w3 h3 => ?_⟩
      cases e with
      | normal =>
        obtain ⟨H', hI', hw'⟩ := h3
        exact ⟨_, _, run_endRound none (hw'.at (i := 0) rfl), .inl ⟨rfl, H', hI', hw'.put (i := 0) rfl _⟩⟩
      | ret =>
        obtain ⟨H', hX', hw'⟩ := h3
        exact ⟨_, _, run_endRound (some .ret) (hw'.at (i := 0) rfl), .inr ⟨rfl, .ret, H', hX', hw'.put (i := 0) rfl _⟩⟩
      | exit id =>
        obtain ⟨H', hX', hw'⟩ := h3
        exact ⟨_, _, run_endRound (some (.exit id)) (hw'.at (i := 0) rfl), .inr ⟨rfl, .exit id, H', hX', hw'.put (i := 0) rfl _⟩⟩
      | goto t => exact h3.elim
      | panic c => exact h3.elim
      | outgrown => exact h3.elim
    | exit id => exact he.elim
    | goto t => exact he.elim
    | ret => exact he.elim
    | panic c => exact he.elim
    | outgrown => exact he.elim
  have hcall := it l J K w1 (fun k w ⟨H, h1, h2⟩ => hMem k H l D _ w h1 h2) (fun k w w' ⟨H, h1, h2⟩ e => ⟨H, h1, h2.more e⟩) (fun k w w' ⟨c, H, h1, h2⟩ e => ⟨c, H, h1, h2.more e⟩) hy ⟨H, hI0, h2⟩
  refine ((callsIn_wide (n := 0)).2 hcall : CallsIn (FR none) 0 P f _ w1 _).mono fun e w3 he => ?_
  cases e with
  | returned v =>
    have fr : Fr n ({ target := .collected D, args := #[] } :: ds) L { a with defers := [{ target := .collected D, args := #[] }] ++ a.defers } := ⟨hf.size, by simp [hf.defers], hf.get⟩
    rcases he with ⟨H', hI', hw'⟩ | ⟨k, c, H', hX', hw'⟩
    · exact ⟨_, _, run_endLoop (hw'.at (i := 0) rfl) (by simp), hdone D H' _ _ hI' fr ((hw'.put (i := 0) rfl _).less (.cons _ (List.Sublist.refl _)))⟩
    · exact ⟨_, _, run_endLoop (hw'.at (i := 0) rfl) (by simp), hstop k c D H' _ _ hX' fr ((hw'.put (i := 0) rfl _).less (.cons _ (List.Sublist.refl _)))⟩
  | panicked c => exact he.elim
  | outgrown => exact he.elim
end
end Go.Sy

namespace Go.Sy
def popF : Nat → Nat → Nat
  | 0, _ => 0
  | k + 1, n => n % 2 + popF k (n / 2)
/-- How many bits of a number are set. -/
def pc (n : Nat) : Nat := popF 64 n

theorem popF_zero : ∀ k, popF k 0 = 0
  | 0 => rfl
  | k + 1 => by simp [popF, popF_zero k]
theorem popF_more : ∀ (k n : Nat), n < 2 ^ k → popF (k + 1) n = popF k n
  | 0, n, h => by have : n = 0 := by simp at h; omega
                  subst this; simp [popF]
  | k + 1, n, h => by
    rw [popF, popF_more k (n / 2) (by rw [Nat.pow_succ] at h; omega), popF]
theorem pc_zero : pc 0 = 0 := popF_zero 64
theorem pc_step {n : Nat} (h : n < 2 ^ 64) : pc n = n % 2 + pc (n / 2) := by
  unfold pc
  have : popF 64 n = n % 2 + popF 63 (n / 2) := rfl
  rw [this, ← popF_more 63 (n / 2) (by omega)]
theorem popF_le : ∀ (k n : Nat), popF k n ≤ k
  | 0, _ => by simp [popF]
  | k + 1, n => by have := popF_le k (n / 2); rw [popF]; omega
theorem popF_eq : ∀ (j k n : Nat), n < 2 ^ k → k ≤ j → popF j n = popF k n
  | 0, k, n, h, hj => by have : k = 0 := by omega
                         subst this; rfl
  | j + 1, k, n, h, hj => by
    by_cases hk : k = j + 1
    · subst hk; rfl
    · rw [popF_more j n (Nat.lt_of_lt_of_le h (Nat.pow_le_pow_right (by omega) (by omega))), popF_eq j k n h (by omega)]
theorem popF_add : ∀ (k j n m : Nat), n < 2 ^ k → popF (k + j) (2 ^ k * m + n) = popF k n + popF j m
  | 0, j, n, m, h => by have : n = 0 := by simp at h; omega
                        subst this; simp [popF]
  | k + 1, j, n, m, h => by
    have e1 : (2 ^ (k + 1) * m + n) % 2 = n % 2 := by rw [Nat.pow_succ, Nat.mul_right_comm]; omega
    have e2 : (2 ^ (k + 1) * m + n) / 2 = 2 ^ k * m + n / 2 := by rw [Nat.pow_succ, Nat.mul_right_comm]; omega
    rw [show k + 1 + j = (k + j) + 1 by omega, popF, e1, e2, popF_add k j (n / 2) m (by rw [Nat.pow_succ] at h; omega), popF]
    omega
theorem pc_bytes {h l : Nat} (hh : h < 256) (hl : l < 256) : pc (256 * h + l) = pc h + pc l := by
  have h1 := popF_add 8 8 l h hl
  unfold pc
  rw [popF_eq 64 16 (256 * h + l) (by omega) (by omega), popF_eq 64 8 h hh (by omega), popF_eq 64 8 l hl (by omega)]
  simpa [Nat.add_comm] using h1

theorem land_split (a b m M : Nat) (ha : a < 256) (hm : m < 256) : (256 * b + a) &&& (256 * M + m) = 256 * (b &&& M) + (a &&& m) := by
  have hx : a &&& m < 2 ^ 8 := Nat.and_lt_two_pow _ (by omega)
  apply Nat.eq_of_testBit_eq
  intro j
  rw [Nat.testBit_and, show 256 = 2 ^ 8 from rfl, Nat.testBit_two_pow_mul_add _ (by omega), Nat.testBit_two_pow_mul_add _ (by omega), Nat.testBit_two_pow_mul_add _ (by omega)]
  split <;> simp [Nat.testBit_and]

def sw1 (x : Nat) : Nat := ((x / 2) &&& 6148914691236517205) + (x &&& 6148914691236517205)
def sw2 (x : Nat) : Nat := ((x / 4) &&& 3689348814741910323) + (x &&& 3689348814741910323)
def sw3 (x : Nat) : Nat := (x / 16 + x) &&& 1085102592571150095
def sw4 (x : Nat) : Nat := x + x / 256
def sw5 (x : Nat) : Nat := x + x / 65536
def sw6 (x : Nat) : Nat := x + x / 4294967296
def sw (x : Nat) : Nat := (sw6 (sw5 (sw4 (sw3 (sw2 (sw1 x)))))) &&& 127

def upto (p : Nat → Bool) : Nat → Bool
  | 0 => true
  | n + 1 => p n && upto p n
theorem upto_get {p : Nat → Bool} : ∀ {n : Nat}, upto p n = true → ∀ i, i < n → p i = true
  | 0, _, i, hi => by omega
  | n + 1, h, i, hi => by
    simp only [upto, Bool.and_eq_true] at h
    by_cases e : i = n
    · subst e; exact h.1
    · exact upto_get h.2 i (by omega)

theorem byte1 : upto (fun l => Nat.beq ((128 + l / 2) &&& 85) ((l / 2) &&& 85) && Nat.beq ((l / 2) &&& 6148914691236517205) ((l / 2) &&& 85) && Nat.beq (l &&& 6148914691236517205) (l &&& 85) && Nat.blt (sw1 l) 171) 256 = true := by kernel_rfl
theorem byte2 : upto (fun l => Nat.beq ((64 + l / 4) &&& 51) ((l / 4) &&& 51) && Nat.beq ((128 + l / 4) &&& 51) ((l / 4) &&& 51) && Nat.beq ((192 + l / 4) &&& 51) ((l / 4) &&& 51) && Nat.beq ((l / 4) &&& 3689348814741910323) ((l / 4) &&& 51) && Nat.beq (l &&& 3689348814741910323) (l &&& 51) && Nat.blt (sw2 l) 103) 256 = true := by kernel_rfl
theorem byte0 : upto (fun l => Nat.beq (sw3 (sw2 (sw1 l))) (pc l) && Nat.ble (sw2 (sw1 l)) 68 && Nat.ble (sw2 (sw1 l) % 16) 4 && Nat.blt (sw1 l) 171) 256 = true := by kernel_rfl
theorem nib : upto (fun l => Nat.beq (l &&& 15) (l % 16) && Nat.beq (l &&& 1085102592571150095) (l % 16)) 256 = true := by kernel_rfl

theorem sw1_bytes {h l : Nat} (hh : h < 256) (hl : l < 256) : sw1 (256 * h + l) = 256 * sw1 h + sw1 l := by
  have bl := upto_get byte1 l hl
  have bh := upto_get byte1 h hh
  simp only [Bool.and_eq_true, Nat.beq_eq] at bl bh
  have e : (256 * h + l) / 2 = 256 * (h / 2) + (128 * (h % 2) + l / 2) := by omega
  have k : (128 * (h % 2) + l / 2) &&& 85 = (l / 2) &&& 85 := by
    rcases Nat.mod_two_eq_zero_or_one h with h0 | h0 <;> rw [h0]
    · simp
    · exact bl.1.1.1
  unfold sw1
  rw [e, show 6148914691236517205 = 256 * 24019198012642645 + 85 from rfl, land_split _ _ _ _ (by omega) (by omega), land_split _ _ _ _ hl (by omega), k]
  have c1 : (h / 2) &&& 24019198012642645 = (h / 2) &&& 85 := by
    have := land_split (h / 2) 0 85 93824992236885 (by omega) (by omega)
    simpa using this
  have c2 : h &&& 24019198012642645 = h &&& 85 := by
    have := land_split h 0 85 93824992236885 hh (by omega)
    simpa using this
  rw [c1, c2, ← show 6148914691236517205 = 256 * 24019198012642645 + 85 from rfl, bh.1.1.2, bh.1.2, bl.1.1.2, bl.1.2]
  omega
theorem sw2_bytes {h l : Nat} (hh : h < 256) (hl : l < 256) : sw2 (256 * h + l) = 256 * sw2 h + sw2 l := by
  have bl := upto_get byte2 l hl
  have bh := upto_get byte2 h hh
  simp only [Bool.and_eq_true, Nat.beq_eq] at bl bh
  have e : (256 * h + l) / 4 = 256 * (h / 4) + (64 * (h % 4) + l / 4) := by omega
  have k : (64 * (h % 4) + l / 4) &&& 51 = (l / 4) &&& 51 := by
    have h4 : h % 4 = 0 ∨ h % 4 = 1 ∨ h % 4 = 2 ∨ h % 4 = 3 := by omega
    rcases h4 with h0 | h0 | h0 | h0 <;> rw [h0]
    · simp
    · exact bl.1.1.1.1.1
    · exact bl.1.1.1.1.2
    · exact bl.1.1.1.2
  unfold sw2
  rw [e, show 3689348814741910323 = 256 * 14411518807585587 + 51 from rfl, land_split _ _ _ _ (by omega) (by omega), land_split _ _ _ _ hl (by omega), k]
  have c1 : (h / 4) &&& 14411518807585587 = (h / 4) &&& 51 := by
    have := land_split (h / 4) 0 51 56294995342131 (by omega) (by omega)
    simpa using this
  have c2 : h &&& 14411518807585587 = h &&& 51 := by
    have := land_split h 0 51 56294995342131 hh (by omega)
    simpa using this
  rw [c1, c2, ← show 3689348814741910323 = 256 * 14411518807585587 + 51 from rfl, bh.1.1.2, bh.1.2, bl.1.1.2, bl.1.2]
  omega
theorem sw3_bytes {h l : Nat} (hh : h ≤ 68) (h4 : h % 16 ≤ 4) (hl : l ≤ 68) : sw3 (256 * h + l) = 256 * sw3 h + sw3 l := by
  have e : (256 * h + l) / 16 + (256 * h + l) = 256 * (h / 16 + h) + (16 * (h % 16) + l / 16 + l) := by omega
  have n1 := upto_get nib (16 * (h % 16) + l / 16 + l) (by omega)
  have n2 := upto_get nib (l / 16 + l) (by omega)
  have n3 := upto_get nib (h / 16 + h) (by omega)
  simp only [Bool.and_eq_true, Nat.beq_eq] at n1 n2 n3
  unfold sw3
  rw [e, n2.2, n3.2, show 1085102592571150095 = 256 * 4238682002231055 + 15 from rfl, land_split _ _ _ _ (by omega) (by omega), n1.1]
  have c : (h / 16 + h) &&& 4238682002231055 = (h / 16 + h) % 16 := by
    have := land_split (h / 16 + h) 0 15 16557351571215 (by omega) (by omega)
    simp only [Nat.mul_zero, Nat.zero_add, Nat.zero_and] at this
    rw [show 256 * 16557351571215 + 15 = 4238682002231055 from rfl] at this
    rw [this, n3.1]
  rw [c]
  omega

/-- The library's way of counting bits. -/
theorem sw_pc {x : Nat} (hx : x < 65536) : sw x = pc x := by
  obtain ⟨h, l, hh, hl, rfl⟩ : ∃ h l, h < 256 ∧ l < 256 ∧ x = 256 * h + l := ⟨x / 256, x % 256, by omega, by omega, by omega⟩
  have bl := upto_get byte0 l hl
  have bh := upto_get byte0 h hh
  simp only [Bool.and_eq_true, Nat.beq_eq, Nat.ble_eq] at bl bh
  have ll := Nat.le_of_ble_eq_true bl.2
  have lh := Nat.le_of_ble_eq_true bh.2
  have e3 : sw3 (sw2 (sw1 (256 * h + l))) = 256 * pc h + pc l := by
    rw [sw1_bytes hh hl, sw2_bytes (by omega) (by omega), sw3_bytes bh.1.1.2 bh.1.2 bl.1.1.2, bl.1.1.1, bh.1.1.1]
  have p1 : pc h ≤ 8 := by unfold pc; rw [popF_eq 64 8 h hh (by omega)]; exact popF_le 8 h
  have p2 : pc l ≤ 8 := by unfold pc; rw [popF_eq 64 8 l hl (by omega)]; exact popF_le 8 l
  have e4 : sw4 (256 * pc h + pc l) = 256 * pc h + (pc l + pc h) := by unfold sw4; omega
  have e5 : sw5 (256 * pc h + (pc l + pc h)) = 256 * pc h + (pc l + pc h) := by unfold sw5; omega
  have e6 : sw6 (256 * pc h + (pc l + pc h)) = 256 * pc h + (pc l + pc h) := by unfold sw6; omega
  unfold sw
  rw [e3, e4, e5, e6, pc_bytes hh hl]
  have := land_split (pc l + pc h) (pc h) 127 0 (by omega) (by omega)
  simp only [Nat.mul_zero, Nat.zero_add, Nat.and_zero] at this
  rw [this]
  have n : (pc l + pc h) &&& 127 = (pc l + pc h) % 128 := Nat.and_two_pow_sub_one_eq_mod _ 7
  rw [n]; omega
attribute [irreducible] pc sw
end Go.Sy
namespace Go.Sy
theorem sw1_le (x : Nat) (h : x < 65536) : sw1 x ≤ 131072 := by
  have a := Nat.and_le_left (n := x / 2) (m := 6148914691236517205); have b := Nat.and_le_left (n := x) (m := 6148914691236517205)
  unfold sw1; omega
theorem sw2_le (x : Nat) (h : x < 65536) : sw2 (sw1 x) ≤ 262144 := by
  have k := sw1_le x h
  have a := Nat.and_le_left (n := sw1 x / 4) (m := 3689348814741910323); have b := Nat.and_le_left (n := sw1 x) (m := 3689348814741910323)
  unfold sw2; omega
theorem sw3_le (x : Nat) (h : x < 65536) : sw3 (sw2 (sw1 x)) ≤ 524288 := by
  have k := sw2_le x h
  have a := Nat.and_le_left (n := sw2 (sw1 x) / 16 + sw2 (sw1 x)) (m := 1085102592571150095)
  unfold sw3; omega
theorem sw4_le (x : Nat) (h : x < 65536) : sw4 (sw3 (sw2 (sw1 x))) ≤ 1048576 := by
  have k := sw3_le x h
  unfold sw4; omega
theorem sw5_le (x : Nat) (h : x < 65536) : sw5 (sw4 (sw3 (sw2 (sw1 x)))) ≤ 2097152 := by
  have k := sw4_le x h
  unfold sw5; omega
theorem sw6_le (x : Nat) (h : x < 65536) : sw6 (sw5 (sw4 (sw3 (sw2 (sw1 x))))) ≤ 4194304 := by
  have k := sw5_le x h
  unfold sw6; omega
end Go.Sy

namespace Go.Sy
open Go Go.Proofs Go.RowKit

theorem Hp.perm {w0 w : World} {M : List Nat} {H H' : List (Nat × Obj)} (h : Hp w0 M H w) (p : H.Perm H') : Hp w0 M H' w :=
  ⟨h.ext, fun x hx => h.get x (p.mem_iff.2 hx), (p.map Prod.fst).nodup_iff.1 h.nodup, fun x hx => h.mine x (p.mem_iff.2 hx)⟩
theorem Hp.mark {w0 w : World} {M : List Nat} {X : List (Nat × Obj)} {D : Nat} {Ds : List Nat} (h : Hp w0 M ((D, .deferred (some [])) :: (X ++ dls Ds)) w) : Hp w0 M (X ++ dls (D :: Ds)) w :=
  h.perm List.perm_middle.symm

section
variable {P : Program} {a : Act} {w w0 : World} {n : Nat} {L : List (Nat × Value)} {fn : Func} {R : Value → World → Prop} {M : List Nat} {H : List (Nat × Obj)}
theorem ret_mb {Ds : List Nat} (hf : Fr n (mkd Ds) L a) (hh : Hp w0 M (H ++ dls Ds) w)
    (k : ∀ w', Hp w0 M H w' → ∃ vs, ResAt P L w' fn.results.toList vs ∧ R (tup vs) w') : bodyPostM (FR none) 0 P fn (Ret R) .ret a w :=
  ret_m hf (hh.perm List.perm_append_comm) k
variable {r : Option Nat} {Q : Exit → Act → World → Prop} {ds : List Deferred}
theorem sy_loopM {σ : Type} {c : Code} (ms : List Nat) (dsf : σ → List Deferred) (ov : σ → List (Nat × Value)) (hp : σ → World → Prop) (μ : σ → Nat) (s0 : σ) (hf : Fr n ds L a) (hd : ds = dsf s0) (h0 : AllIn L (ov s0)) (hw : hp s0 w)
    (round : ∀ s a w, hp s w → Fr n (dsf s) (ov s ++ rmL ms L) a → WP P r c (Exit.then (fun a' w' => ∃ s', (hp s' w' ∧ Fr n (dsf s') (ov s' ++ rmL ms L) a') ∧ μ s' < μ s) Q) a w) : WP P r (.loop c) Q a w :=
  sy_loopG (fun s a w => hp s w ∧ Fr n (dsf s) (ov s ++ rmL ms L) a) μ s0 ⟨hw, (hd ▸ hf).head h0 Keep.base⟩ fun s a w h => round s a w h.1 h.2
end

/-! ### Numbers that are not below 0 -/
theorem ofInt_nat {w : Nat} {p : Int} (h0 : 0 ≤ p) (h1 : p < 2 ^ w) : (BitVec.ofInt w p).toNat = p.toNat := by
  obtain ⟨m, rfl⟩ := Int.eq_ofNat_of_zero_le h0
  rw [BitVec.ofInt_natCast, BitVec.toNat_ofNat, Int.toNat_natCast]
  exact Nat.mod_eq_of_lt (by exact_mod_cast h1)

/-- The greatest number up to which a kind's numbers are taken here. -/
def IntKind.top : IntKind → Int
  | .i64 => 9223372036854775807
  | .u64 => 18446744073709551615
  | _ => 0
theorem wrap_top {k : IntKind} {n : Int} (h0 : 0 ≤ n) (h1 : n ≤ IntKind.top k) (hk : k = .i64 ∨ k = .u64) : k.wrap n = n := by
  rcases hk with rfl | rfl
  · exact wrap_i64 (by omega) h1
  · exact wrap_u64 h0 h1
theorem bits_top {k : IntKind} {p : Int} (h0 : 0 ≤ p) (h1 : p ≤ IntKind.top k) (hk : k = .i64 ∨ k = .u64) : (BitVec.ofInt k.bits p).toNat = p.toNat := by
  refine ofInt_nat h0 ?_
  rcases hk with rfl | rfl <;> simp only [IntKind.top] at h1 <;> simp only [IntKind.bits] <;> omega

/-- The members of a set that another has not. -/
def andn (a b : Nat) : Nat := a ^^^ (a &&& b)

section
variable {P : Program} {C : World → Prop} {L : List (Nat × Value)} {dd : Option Tmp} {ty : TypeId} {pos : String} {af : Array Edge} {gd : Option (Nat × Bool)}
theorem toNat_le_top {k : IntKind} {p : Int} (h0 : 0 ≤ p) (h1 : p ≤ IntKind.top k) : (p.toNat : Int) ≤ IntKind.top k := by rw [Int.toNat_of_nonneg h0]; exact h1

theorem yv_and {t t' : TypeId} {x y : Operand} {k : IntKind} {p q : Int} (hk : k = .i64 ∨ k = .u64) (hx : ev L x = some (.int k p)) (hy : ev L y = some (.int k q)) (hp : 0 ≤ p) (hp1 : p ≤ IntKind.top k) (hq : 0 ≤ q) (hq1 : q ≤ IntKind.top k) :
    Yv P C L ⟨dd, .binOp .and t x y t', ty, pos, af, gd⟩ (.int k ((p.toNat &&& q.toNat : Nat) : Int)) := by
  refine yv_bin hx hy ?_
  simp only [binV, Option.some.injEq, Value.int.injEq, true_and]
  rw [BitVec.toNat_and, bits_top hp hp1 hk, bits_top hq hq1 hk]
  have h1 : p.toNat &&& q.toNat ≤ p.toNat := Nat.and_le_left
  exact wrap_top (by omega) (by have := toNat_le_top hp hp1; omega) hk
theorem or_lt_top {k : IntKind} {p q : Int} (hk : k = .i64 ∨ k = .u64) (hp : 0 ≤ p) (hp1 : p ≤ IntKind.top k) (hq : 0 ≤ q) (hq1 : q ≤ IntKind.top k) : ((p.toNat ||| q.toNat : Nat) : Int) ≤ IntKind.top k ∧ ((p.toNat ^^^ q.toNat : Nat) : Int) ≤ IntKind.top k := by
  rcases hk with rfl | rfl
  · simp only [IntKind.top] at *
    have h1 : p.toNat < 2 ^ 63 := by omega
    have h2 : q.toNat < 2 ^ 63 := by omega
    have h3 := Nat.or_lt_two_pow h1 h2
    have h4 := Nat.xor_lt_two_pow h1 h2
    omega
  · simp only [IntKind.top] at *
    have h1 : p.toNat < 2 ^ 64 := by omega
    have h2 : q.toNat < 2 ^ 64 := by omega
    have h3 := Nat.or_lt_two_pow h1 h2
    have h4 := Nat.xor_lt_two_pow h1 h2
    omega
theorem yv_or {t t' : TypeId} {x y : Operand} {k : IntKind} {p q : Int} (hk : k = .i64 ∨ k = .u64) (hx : ev L x = some (.int k p)) (hy : ev L y = some (.int k q)) (hp : 0 ≤ p) (hp1 : p ≤ IntKind.top k) (hq : 0 ≤ q) (hq1 : q ≤ IntKind.top k) :
    Yv P C L ⟨dd, .binOp .or t x y t', ty, pos, af, gd⟩ (.int k ((p.toNat ||| q.toNat : Nat) : Int)) := by
  refine yv_bin hx hy ?_
  simp only [binV, Option.some.injEq, Value.int.injEq, true_and]
  rw [BitVec.toNat_or, bits_top hp hp1 hk, bits_top hq hq1 hk]
  exact wrap_top (by omega) (or_lt_top hk hp hp1 hq hq1).1 hk
theorem yv_andn {t t' : TypeId} {x y : Operand} {k : IntKind} {p q : Int} (hk : k = .i64 ∨ k = .u64) (hx : ev L x = some (.int k p)) (hy : ev L y = some (.int k q)) (hp : 0 ≤ p) (hp1 : p ≤ IntKind.top k) (hq : 0 ≤ q) (hq1 : q ≤ IntKind.top k) :
    Yv P C L ⟨dd, .binOp .andNot t x y t', ty, pos, af, gd⟩ (.int k (andn p.toNat q.toNat)) := by
  refine yv_bin hx hy ?_
  simp only [binV, Option.some.injEq, Value.int.injEq, true_and]
  have e : (BitVec.ofInt k.bits p &&& ~~~BitVec.ofInt k.bits q).toNat = andn p.toNat q.toNat := by
    have e1 : BitVec.ofInt k.bits p &&& ~~~BitVec.ofInt k.bits q = BitVec.ofInt k.bits p ^^^ (BitVec.ofInt k.bits p &&& BitVec.ofInt k.bits q) := by
      apply BitVec.eq_of_getLsbD_eq
      intro i hi
      rw [BitVec.getLsbD_and, BitVec.getLsbD_not, BitVec.getLsbD_xor, BitVec.getLsbD_and]
      simp only [hi, decide_true, Bool.true_and]
      cases (BitVec.ofInt k.bits p).getLsbD i <;> cases (BitVec.ofInt k.bits q).getLsbD i <;> rfl
    rw [e1, BitVec.toNat_xor, BitVec.toNat_and, bits_top hp hp1 hk, bits_top hq hq1 hk]; rfl
  rw [e]
  have h1 : andn p.toNat q.toNat ≤ p.toNat := by
    unfold andn
    have : p.toNat ^^^ (p.toNat &&& q.toNat) = p.toNat &&& (p.toNat ^^^ (p.toNat &&& q.toNat)) := by
      apply Nat.eq_of_testBit_eq
      intro i
      rw [Nat.testBit_xor, Nat.testBit_and, Nat.testBit_and, Nat.testBit_xor, Nat.testBit_and]
      cases p.toNat.testBit i <;> simp
    rw [this]; exact Nat.and_le_left
  exact wrap_top (by omega) (by have := toNat_le_top hp hp1; omega) hk

theorem yv_addx {t t' : TypeId} {x y : Operand} {k : IntKind} {p q : Int} (hk : k = .i64 ∨ k = .u64) (hx : ev L x = some (.int k p)) (hy : ev L y = some (.int k q)) (h1 : 0 ≤ p + q) (h2 : p + q ≤ IntKind.top k) :
    Yv P C L ⟨dd, .binOp .add t x y t', ty, pos, af, gd⟩ (.int k (p + q)) := yv_bin hx hy (by simp [binV, wrap_top h1 h2 hk])
theorem yv_subx {t t' : TypeId} {x y : Operand} {k : IntKind} {p q : Int} (hk : k = .i64 ∨ k = .u64) (hx : ev L x = some (.int k p)) (hy : ev L y = some (.int k q)) (h1 : 0 ≤ p - q) (h2 : p - q ≤ IntKind.top k) :
    Yv P C L ⟨dd, .binOp .sub t x y t', ty, pos, af, gd⟩ (.int k (p - q)) := yv_bin hx hy (by simp [binV, wrap_top h1 h2 hk])

/-- 1 shifted left. -/
theorem yv_shl1 {t t' : TypeId} {x y : Operand} {k k' : IntKind} {q : Int} (hk : k = .i64 ∨ k = .u64) (hx : ev L x = some (.int k 1)) (hy : ev L y = some (.int k' q)) (h0 : 0 ≤ q) (hq : q ≤ 62) :
    Yv P C L ⟨dd, .binOp .shl t x y t', ty, pos, af, gd⟩ (.int k ((2 ^ q.toNat : Nat) : Int)) := fun ρ hρ w hw => by
  have hb : q ≤ k.bits := by rcases hk with rfl | rfl <;> simp only [IntKind.bits] <;> omega
  have h := yv_shl (P := P) (C := C) (L := L) (dd := dd) (ty := ty) (pos := pos) (af := af) (gd := gd) (t := t) (t' := t') hx hy h0 hb ρ hρ w hw
  have e : ((2 : Int) ^ q.toNat) = ((2 ^ q.toNat : Nat) : Int) := by push_cast; rfl
  have hle : (2 : Nat) ^ q.toNat ≤ 2 ^ 62 := Nat.pow_le_pow_right (by omega) (by omega)
  rw [Int.one_mul, e, wrap_top (k := k) (Int.natCast_nonneg _) (by rcases hk with rfl | rfl <;> simp only [IntKind.top] <;> omega) hk] at h
  exact h
/-- Shifted right. -/
theorem yv_shrx {t t' : TypeId} {x y : Operand} {k k' : IntKind} {p q : Int} (hk : k = .i64 ∨ k = .u64) (hx : ev L x = some (.int k p)) (hy : ev L y = some (.int k' q)) (hp : 0 ≤ p) (h0 : 0 ≤ q) (hq : q ≤ 64) :
    Yv P C L ⟨dd, .binOp .shr t x y t', ty, pos, af, gd⟩ (.int k ((p.toNat >>> q.toNat : Nat) : Int)) := fun ρ hρ w hw => by
  have hb : q ≤ k.bits := by rcases hk with rfl | rfl <;> simp only [IntKind.bits] <;> omega
  have h := yv_shr (P := P) (C := C) (L := L) (dd := dd) (ty := ty) (pos := pos) (af := af) (gd := gd) (t := t) (t' := t') hx hy h0 hb ρ hρ w hw
  have e : p.fdiv (2 ^ q.toNat) = ((p.toNat >>> q.toNat : Nat) : Int) := by
    obtain ⟨m, rfl⟩ := Int.eq_ofNat_of_zero_le hp
    rw [Int.toNat_natCast, Nat.shiftRight_eq_div_pow, Int.fdiv_eq_ediv_of_nonneg _ (Int.pow_nonneg (by omega))]
    push_cast; rfl
  rw [e] at h
  exact h
theorem yv_convx {s t : TypeId} {x : Operand} {k k' : IntKind} {p : Int} (hk : k' = .i64 ∨ k' = .u64) (hs : (P.underlying s).isSome = true) (ht : P.underlying t = some (.int k')) (hx : ev L x = some (.int k p)) (h0 : 0 ≤ p) (h1 : p ≤ IntKind.top k') :
    Yv P C L ⟨dd, .convert s t x, ty, pos, af, gd⟩ (.int k' p) := by
  have h := yv_conv (C := C) (L := L) (dd := dd) (ty := ty) (pos := pos) (af := af) (gd := gd) hs ht hx
  rw [wrap_top h0 h1 hk] at h
  exact h
end

/-! ### Memo maps: numbers to numbers, each entry what it should be -/
def Memo (k k' : IntKind) (F : Int → Int) (es : Array MapEntry) : Prop := ∀ e ∈ es.toList, ∃ n, e.key = .int k n ∧ e.val = .int k' (F n)
def memoHas (es : Array MapEntry) (p : Int) : Bool := es.toList.any fun e => match e.key with | .int _ n => n == p | _ => false

theorem findNow_memo {k k' : IntKind} {F : Int → Int} {p : Int} : ∀ (l : List MapEntry) (i : Nat), (∀ e ∈ l, ∃ n, e.key = .int k n ∧ e.val = .int k' (F n)) →
    (∃ j, l.any (fun e => match e.key with | .int _ n => n == p | _ => false) = true ∧ Instr.findNow (.int k) (.int k p) l i = some (some (j, .int k' (F p))) ∧ ∃ e, l[j - i]? = some e ∧ i ≤ j ∧ e.key = .int k p) ∨
    (l.any (fun e => match e.key with | .int _ n => n == p | _ => false) = false ∧ Instr.findNow (.int k) (.int k p) l i = some none)
  | [], i, _ => .inr ⟨rfl, rfl⟩
  | e :: l, i, h => by
    obtain ⟨n, hn, hv⟩ := h e (by simp)
    by_cases hnp : n = p
    · subst hnp
      refine .inl ⟨i, by simp [hn], by simp [Instr.findNow, Instr.sameNow, hn, hv], e, by simp, Nat.le_refl _, hn⟩
    · have ih := findNow_memo (k := k) (k' := k') (F := F) (p := p) l (i + 1) (fun e he => h e (by simp [he]))
      have e1 : (p == n) = false := by simp; omega
      have e2 : (n == p) = false := by simp; omega
      rcases ih with ⟨j, h1, h2, e', h3, h4, h5⟩ | ⟨h1, h2⟩
      · refine .inl ⟨j, by simp [hn, e2, h1], by simp [Instr.findNow, Instr.sameNow, hn, e1, h2], e', ?_, by omega, h5⟩
        rw [show j - i = (j - (i + 1)) + 1 by omega]; simpa using h3
      · exact .inr ⟨by simp [hn, e2, h1], by simp [Instr.findNow, Instr.sameNow, hn, e1, h2]⟩

def mapTypes (P : Program) (t : TypeId) : Option (TypeId × TypeId × IntKind) :=
  match P.underlying t with
  | some (.map ke el) => match P.underlying ke with
    | some (.int k) => some (ke, el, k)
    | _ => none
  | _ => none
theorem mapTypes_eq {P : Program} {t ke el : TypeId} {k : IntKind} (h : mapTypes P t = some (ke, el, k)) : P.underlying t = some (.map ke el) ∧ P.underlying ke = some (.int k) := by
  unfold mapTypes at h
  split at h
  · rename_i a b hm
    split at h
    · rename_i k' hk
      simp only [Option.some.injEq, Prod.mk.injEq] at h
      obtain ⟨rfl, rfl, rfl⟩ := h
      exact ⟨hm, hk⟩
    · simp at h
  · simp at h

theorem run_checkKey_int {P : Program} {w : World} {b : Bool} {n : Nat} {t : TypeId} {k : IntKind} {p : Int} (h : P.underlying t = some (.int k)) : (Instr.checkKey b (n + 1) t (.int k p)).run P w = .ok () w := by
  simp [Instr.checkKey, run_underlying h]

theorem run_checkKey_int' {P : Program} {w : World} {b : Bool} {t : TypeId} {k : IntKind} {p : Int} (h : P.underlying t = some (.int k)) : (Instr.checkKey b 10000 t (.int k p)).run P w = .ok () w := run_checkKey_int (n := 9999) h

section
variable {P : Program} {C : World → Prop} {L : List (Nat × Value)} {dd : Option Tmp} {ty : TypeId} {pos : String} {af : Array Edge} {gd : Option (Nat × Bool)}
theorem yv_lookup {t ke el : TypeId} {k k' : IntKind} {F : Int → Int} {x y : Operand} {bm c : Nat} {es : Array MapEntry} {p z : Int} (ht : mapTypes P t = some (ke, el, k)) (hz : zeroOf P el = some (.int k' z)) (hx : ev L x = some (.map (some bm))) (hy : ev L y = some (.int k p))
    (hb : ∀ w, C w → w.heap[bm]? = some (.map es c)) (hm : Memo k k' F es) :
    Yv P C L ⟨dd, .lookup t x y true, ty, pos, af, gd⟩ (.tuple #[.int k' (if memoHas es p then F p else z), .bool (memoHas es p)]) := fun ρ hρ w hw => by
  obtain ⟨h1, h2⟩ := mapTypes_eq ht
  have hg : (getObj bm).run P w = .ok (.map es c) w := by simp [getObj, Sem.run, hb w hw]
  have hc := run_checkKey_int' (P := P) (w := w) (b := es.isEmpty) (p := p) h2
  rcases findNow_memo (k := k) (k' := k') (F := F) (p := p) es.toList 0 hm with ⟨j, a1, a2, _⟩ | ⟨a1, a2⟩
  · have e : memoHas es p = true := a1
    simp [execOp, hρ _ _ hx, hρ _ _ hy, Instr.lookup, run_underlying h1, hg, hc, Instr.findKey, run_underlying h2, a2, e]
  · have e : memoHas es p = false := a1
    simp [execOp, hρ _ _ hx, hρ _ _ hy, Instr.lookup, run_underlying h1, hg, hc, Instr.findKey, run_underlying h2, a2, e, run_zero hz]
end

section
variable {P : Program} {r : Option Nat} {all : Array Oper} {Q : Exit → Act → World → Prop} {rest : List Oper} {a : Act} {w w0 : World} {M : List Nat} {H : List (Nat × Obj)} {n : Nat} {ds : List Deferred} {L : List (Nat × Value)} {v : Value} {d : Nat}
  {ty : TypeId} {pos : String} {af : Array Edge} {gd : Option (Nat × Bool)}

theorem ops_mapUpdate {t ke el : TypeId} {k k' : IntKind} {F : Int → Int} {x y z : Operand} {bm c i : Nat} {es : Array MapEntry} {p : Int} (hf : Fr n ds L a) (hh : Hp w0 M H w) (ht : mapTypes P t = some (ke, el, k)) (hx : ev L x = some (.map (some bm))) (hy : ev L y = some (.int k p))
    (hv : ev L z = some (.int k' (F p))) (hi : H[i]? = some (bm, .map es c)) (hm : Memo k k' F es) (hg : GOn all L ⟨none, .mapUpdate t x y z, ty, pos, af, gd⟩)
    (K : ∀ (es' : Array MapEntry) (c' : Nat) (w : World), Memo k k' F es' → Hp w0 M (H.set i (bm, .map es' c')) w → OpsW P r all Q rest a w) : OpsW P r all Q (⟨none, .mapUpdate t x y z, ty, pos, af, gd⟩ :: rest) a w := by
  obtain ⟨h1, h2⟩ := mapTypes_eq ht
  have hb := hh.at hi
  have hgo : (getObj bm).run P w = .ok (.map es c) w := by simp [getObj, Sem.run, hb]
  have hc := run_checkKey_int' (P := P) (w := w) (b := false) (p := p) h2
  have hset : ∀ o, (setObj bm o).run P w = .ok () (w.putObj bm o) := fun o => by simp [setObj, Sem.run, hb, World.putObj]
  rcases findNow_memo (k := k) (k' := k') (F := F) (p := p) es.toList 0 hm with ⟨j, _, a2, e, a3, _, a5⟩ | ⟨_, a2⟩
  · have hej : es[j]? = some e := by rw [Nat.sub_zero] at a3; rw [← Array.getElem?_toList]; exact a3
    have hkeep : (Instr.keyThatStays (((es[j]?).map (·.key)).getD (.int k p)) (.int k p)).run P w = .ok (.int k p) w := by
      rw [hej]; simp [a5, Instr.keyThatStays, Instr.sameBits]
    refine opsW_skip (w' := w.putObj bm (.map (es.modify j fun e => { e with key := .int k p, val := .int k' (F p) }) c)) (hg.wanted hf) rfl ?_ (K _ _ _ ?_ (hh.put hi _))
    · simp [execOp, hf.agree _ _ hx, hf.agree _ _ hy, hf.agree _ _ hv, Instr.mapUpdate, run_underlying h1, hgo, hc, Instr.findKey, run_underlying h2, a2, hkeep, hset]
    · intro e' he'
      rw [Array.mem_toList_iff] at he'
      obtain ⟨q, hq, rfl⟩ := Array.getElem_of_mem he'
      rw [Array.getElem_modify]
      split
      · exact ⟨p, rfl, rfl⟩
      · exact hm _ (Array.mem_toList_iff.2 (Array.getElem_mem _))
  · refine opsW_skip (w' := w.putObj bm (.map (es.push { key := .int k p, val := .int k' (F p), born := c }) (c + 1))) (hg.wanted hf) rfl ?_ (K _ _ _ ?_ (hh.put hi _))
    · simp [execOp, hf.agree _ _ hx, hf.agree _ _ hy, hf.agree _ _ hv, Instr.mapUpdate, run_underlying h1, hgo, hc, Instr.findKey, run_underlying h2, a2, hset]
    · intro e' he'
      rw [Array.toList_push, List.mem_append] at he'
      rcases he' with he' | he'
      · exact hm e' he'
      · simp at he'; subst he'; exact ⟨p, rfl, rfl⟩

theorem ops_makeMap {t : TypeId} (hf : Fr n ds L a) (hh : Hp w0 M H w) (hg : GOn all L ⟨some d, .makeMap t none, ty, pos, af, gd⟩) (hn : Nat.blt d n = true)
    (k : ∀ (B : Nat) (a : Act) (w : World), Fr n ds ((d, .map (some B)) :: L) a → Hp w0 M ((B, .map #[] 0) :: H) w → OpsW P r all Q rest a w) : OpsW P r all Q (⟨some d, .makeMap t none, ty, pos, af, gd⟩ :: rest) a w := by
  refine opsW_value (w' := { w with heap := w.heap.push (.map #[] 0) }) (v := .map (some w.heap.size)) (hg.wanted hf) rfl ?_ ?_
  · rfl
  · exact k w.heap.size _ _ (hf.put (blt_lt hn) _) (hh.alloc _)

end
end Go.Sy
namespace Go.Sy
open Go Go.Proofs
theorem yv_cast {P : Program} {C : World → Prop} {L : List (Nat × Value)} {o : Oper} {v v' : Value} (h : Yv P C L o v) (e : v = v') : Yv P C L o v' := e ▸ h
theorem intv {k : IntKind} {a b : Int} (h : a = b) : Value.int k a = Value.int k b := congrArg _ h
end Go.Sy

namespace Go.Sy
open Go Go.Proofs Go.RowKit

def putL (cs : List Value) (off : Nat) : List Value → List Value
  | [] => cs
  | v :: vs => putL (cs.set off v) (off + 1) vs
def fillM (pl : Nat → Option (Nat × Nat)) : List Value → List (Nat × Value) → Option (List Value)
  | cs, [] => some cs
  | cs, (i, v) :: rest => match pl i with
    | none => none
    | some (off, size) => bif Nat.beq v.cells.toList.length size && Nat.ble (off + v.cells.toList.length) cs.length then fillM pl (putL cs off v.cells.toList) rest else none

theorem foldl_putL : ∀ (vs : List Value) (j off : Nat) (cs : List Value), (vs.zipIdx j).foldl (fun (c : Array Value) (p : Value × Nat) => c.setIfInBounds (off + p.2) p.1) cs.toArray = (putL cs (off + j) vs).toArray
  | [], j, off, cs => rfl
  | v :: vs, j, off, cs => by
    simp only [List.zipIdx_cons, List.foldl_cons, putL]
    rw [show cs.toArray.setIfInBounds (off + j) v = (cs.set (off + j) v).toArray by simp, foldl_putL vs (j + 1) off]
    rfl

theorem fill_eq (pl : Nat → Option (Nat × Nat)) : ∀ (parts : List (Nat × Value)) (cs r : List Value), fillM pl cs parts = some r → Instr.fill pl cs.toArray parts = some r.toArray
  | [], cs, r, h => by simp [fillM] at h; simp [Instr.fill, h]
  | (i, v) :: rest, cs, r, h => by
    simp only [fillM] at h
    cases hp : pl i with
    | none => rw [hp] at h; simp at h
    | some os =>
      obtain ⟨off, size⟩ := os
      rw [hp] at h
      simp only at h
      cases hc : (Nat.beq v.cells.toList.length size && Nat.ble (off + v.cells.toList.length) cs.length) with
      | false => rw [hc] at h; simp at h
      | true =>
        rw [hc, cond_true] at h
        simp only [Bool.and_eq_true, Nat.beq_eq, Nat.ble_eq, Array.length_toList] at hc
        have ih := fill_eq pl rest _ r h
        have e := foldl_putL v.cells.toList 0 off cs
        simp only [Nat.add_zero] at e
        have e2 : (v.cells.zipIdx.foldl (fun cs (x : Value × Nat) => cs.setIfInBounds (off + x.2) x.1) cs.toArray) = (putL cs off v.cells.toList).toArray := by
          rw [← e, ← Array.foldl_toList, Array.toList_zipIdx]
        simp only [Instr.fill, hp]
        rw [if_neg (by simp [hc.1]; omega)]
        rw [← ih, ← e2]

def structB (P : Program) (t : TypeId) : Option (List Value × List (Nat × Nat)) :=
  match P.underlying t, zeroOf P t with
  | some (.struct fs), some z => if fs.toList.all (fun f => (P.info? f.type).isSome) then some (z.cells.toList, fs.toList.map fun f => (f.offset, ((P.info? f.type).map (·.size)).getD 0)) else none
  | _, _ => none
def arrayB (P : Program) (t : TypeId) : Option (List Value × Nat) :=
  match P.underlying t, zeroOf P t with
  | some (.array _ e), some z => (P.info? e).map fun i => (z.cells.toList, i.size)
  | _, _ => none

theorem run_mapM_pl {P : Program} (w : World) (f : Field → Sem (Nat × Nat)) (hf : ∀ x, f x = (do pure (x.offset, ← sizeOf x.type))) : ∀ (l : List Field), (l.all fun f => (P.info? f.type).isSome) = true →
    (l.mapM f).run P w = .ok (l.map fun f => (f.offset, ((P.info? f.type).map (·.size)).getD 0)) w
  | [], _ => by simp
  | x :: l, h => by
    simp only [List.all_cons, Bool.and_eq_true] at h
    obtain ⟨i, hi⟩ := Option.isSome_iff_exists.1 h.1
    have ih := run_mapM_pl w f hf l h.2
    have e : (f x).run P w = .ok (x.offset, i.size) w := by rw [hf]; simp [sizeOf, typeInfo, hi]
    simp only [List.mapM_cons, Sem.run_bind, e, ih, Sem.run_pure, Result.andThen_ok, List.map_cons, hi, Option.map_some, Option.getD_some]

section
variable {P : Program} {C : World → Prop} {L : List (Nat × Value)} {dd : Option Tmp} {ty : TypeId} {pos : String} {af : Array Edge} {gd : Option (Nat × Bool)}
theorem yv_buildS {t : TypeId} {parts : List (Nat × Operand)} {pv : List (Nat × Value)} {zs cs : List Value} {pl : List (Nat × Nat)} (ht : structB P t = some (zs, pl)) (hp : evp L parts = some pv) (hc : fillM (fun i => pl[i]?) zs pv = some cs) :
    Yv P C L ⟨dd, .build t parts.toArray, ty, pos, af, gd⟩ (.agg cs.toArray) := fun ρ hρ w _ => by
  have hp' := evp_map hρ _ _ hp
  unfold structB at ht
  split at ht
  · rename_i fs z h1 h2
    split at ht
    · rename_i hok
      simp only [Option.some.injEq, Prod.mk.injEq] at ht
      obtain ⟨rfl, rfl⟩ := ht
      have hf := fill_eq _ pv _ cs hc
      simp only [execOp, List.map_toArray, hp', Instr.build, Sem.run_bind, run_zero h2, Result.andThen_ok, run_underlying h1, Sem.run_pure]
      rw [Array.mapM_eq_mapM_toList, Sem.run_map, run_mapM_pl w _ (fun _ => rfl) _ hok]
      simp only [Result.andThen_ok, List.getElem?_toArray]
      rw [show z.cells = z.cells.toList.toArray from rfl, hf]
      rfl
    · simp at ht
  · simp at ht
theorem yv_buildA {t : TypeId} {parts : List (Nat × Operand)} {pv : List (Nat × Value)} {zs cs : List Value} {sz : Nat} (ht : arrayB P t = some (zs, sz)) (hp : evp L parts = some pv) (hc : fillM (fun i => some (i * sz, sz)) zs pv = some cs) :
    Yv P C L ⟨dd, .build t parts.toArray, ty, pos, af, gd⟩ (.agg cs.toArray) := fun ρ hρ w _ => by
  have hp' := evp_map hρ _ _ hp
  unfold arrayB at ht
  split at ht
  · rename_i n e z h1 h2
    cases hi : P.info? e with
    | none => rw [hi] at ht; simp at ht
    | some i =>
      rw [hi] at ht
      simp only [Option.map_some, Option.some.injEq, Prod.mk.injEq] at ht
      obtain ⟨rfl, rfl⟩ := ht
      have hf := fill_eq _ pv _ cs hc
      have hsz : (sizeOf e).run P w = .ok i.size w := by simp [sizeOf, typeInfo, hi]
      simp only [execOp, List.map_toArray, hp', Instr.build, Sem.run_bind, run_zero h2, Result.andThen_ok, run_underlying h1, Sem.run_pure, hsz]
      rw [show z.cells = z.cells.toList.toArray from rfl, hf]
      rfl
  · simp at ht

theorem yv_negw {t : TypeId} {x : Operand} {k : IntKind} {p : Int} (hx : ev L x = some (.int k p)) : Yv P C L ⟨dd, .unOp .neg t x, ty, pos, af, gd⟩ (.int k (k.wrap (0 - p))) := fun ρ hρ w _ => by
  simp [execOp, hρ _ _ hx, Op.unary, Op.intArith]
end

def sliceB (P : Program) (t : TypeId) (m : Nat) : Option (TypeId × Nat × List Value) :=
  match P.underlying t with
  | some (.slice e) => match P.info? e, zeroOf P e with
    | some i, some z => if 2 ^ 24 < m * i.size then none else some (e, i.size, ((Array.range (m * i.size)).map (z.cells[· % z.cells.size]!)).toList)
    | _, _ => none
  | _ => none

section
variable {P : Program} {r : Option Nat} {all : Array Oper} {Q : Exit → Act → World → Prop} {rest : List Oper} {a : Act} {w w0 : World} {M : List Nat} {H : List (Nat × Obj)} {n : Nat} {ds : List Deferred} {L : List (Nat × Value)} {v : Value} {d : Nat}
  {ty : TypeId} {pos : String} {af : Array Edge} {gd : Option (Nat × Bool)}

theorem ops_buildSl {t : TypeId} {m sz : Nat} {parts : List (Nat × Operand)} {pv : List (Nat × Value)} {zs cs : List Value} {e : TypeId} (hf : Fr n ds L a) (hh : Hp w0 M H w) (ht : sliceB P t m = some (e, sz, zs)) (hp : evp L parts = some pv)
    (hc : fillM (fun i => some (i * sz, sz)) zs pv = some cs) (hg : GOn all L ⟨some d, .buildSlice t m parts.toArray, ty, pos, af, gd⟩) (hn : Nat.blt d n = true)
    (k : ∀ (B : Nat) (a : Act) (w : World), Fr n ds ((d, .slice (some ⟨B, 0, none⟩) m m) :: L) a → Hp w0 M ((B, .cells cs.toArray e) :: H) w → OpsW P r all Q rest a w) : OpsW P r all Q (⟨some d, .buildSlice t m parts.toArray, ty, pos, af, gd⟩ :: rest) a w := by
  have hp' := evp_map hf.agree _ _ hp
  have hrun : (Instr.buildSlice t m pv.toArray).run P w = .ok (.slice (some ⟨w.heap.size, 0, none⟩) m m) { w with heap := w.heap.push (.cells cs.toArray e) } := by
    unfold sliceB at ht
    split at ht
    · rename_i e' h1
      split at ht
      · rename_i i z h2 h3
        split at ht
        · simp at ht
        · rename_i hsmall
          simp only [Option.some.injEq, Prod.mk.injEq] at ht
          obtain ⟨rfl, rfl, rfl⟩ := ht
          have hf := fill_eq _ pv _ cs hc
          have hsz : (sizeOf e').run P w = .ok i.size w := by simp [sizeOf, typeInfo, h2]
          have s1 : ¬ m * i.size > 2 ^ 24 := by omega
          simp only [Instr.buildSlice, Sem.run_bind, run_underlying h1, Result.andThen_ok, hsz]
          rw [if_neg s1]
          by_cases s2 : m * i.size = 0
          · rw [if_pos s2]
            rw [s2] at hf ⊢
            simp only [Sem.run_bind, Result.andThen_ok, Sem.run_pure, Array.toArray_toList] at hf ⊢
            have e0 : ((Array.range 0).map fun x => z.cells[x % z.cells.size]!) = (Array.range 0).map fun x => (#[] : Array Value)[x % (#[] : Array Value).size]! := by simp
            rw [e0] at hf
            rw [hf]
            rfl
          · rw [if_neg s2]
            simp only [Sem.run_bind, run_zero h3, Result.andThen_ok, Sem.run_pure, Array.toArray_toList] at hf ⊢
            rw [hf]
            rfl
      · simp at ht
    · simp at ht
  refine opsW_value (w' := { w with heap := w.heap.push (.cells cs.toArray e) }) (v := .slice (some ⟨w.heap.size, 0, none⟩) m m) (hg.wanted hf) rfl ?_ ?_
  · simp only [execOp, List.map_toArray, hp', Sem.run_bind, hrun, Result.andThen_ok, Sem.run_pure]
  · exact k w.heap.size _ _ (hf.put (blt_lt hn) _) (hh.alloc _)

/-- A slice of the call's own: nil, or from the head of a block of its own. -/
def OwnSl (e size : Nat) (v : Value) (m : Nat) (xs : List Value) (X : List (Nat × Obj)) : Prop :=
  xs.length = m * size ∧ ((v = .slice none 0 0 ∧ m = 0 ∧ X = []) ∨ ∃ B cap cur, v = .slice (some ⟨B, 0, none⟩) m cap ∧ X = [(B, .cells cur e (0, 0))] ∧ m ≤ cap ∧ cap ≤ maxLen ∧ cur.size = cap * size ∧ cur.toList.take (m * size) = xs)
theorem OwnSl.nil (e size : Nat) : OwnSl e size (.slice none 0 0) 0 [] [] := ⟨by simp, .inl ⟨rfl, rfl, rfl⟩⟩

def elemB (P : Program) (t : TypeId) : Option (TypeId × Nat × Nat × Value) :=
  match P.underlying t with
  | some (.slice e) => match P.info? e with
    | some i => match i.zero with
      | some z => if z.cells.size = i.size ∧ 0 < i.size then some (e, i.size, i.bytes, z) else none
      | none => none
    | none => none
  | _ => none

theorem ops_append {t : TypeId} {e size bytes : Nat} {z : Value} {x y : Operand} {m q : Nat} {xs news : List Value} {X Z : List (Nat × Obj)} {Bn : Nat} {cs : Array Value} {e' : TypeId} (hf : Fr n ds L a) (hh : Hp w0 M ((Bn, .cells cs e' (0, 0)) :: (X ++ Z)) w)
    (ht : elemB P t = some (e, size, bytes, z)) (hx : ev L x = some v) (hy : ev L y = some (.slice (some ⟨Bn, 0, none⟩) q q)) (ho : OwnSl e size v m xs X) (hcs : cs.toList = news) (hl : news.length = q * size) (h1 : news.all (·.oneCell') = true)
    (h63 : m + q ≤ maxLen) (hby : (m + q) * bytes ≤ 140737488355328) (hg : GOn all L ⟨some d, .call ⟨.builtin .append, #[x, y], #[t, t]⟩, ty, pos, af, gd⟩) (hn : Nat.blt d n = true)
    (k : ∀ (v' : Value) (X' : List (Nat × Obj)) (a : Act) (w : World), OwnSl e size v' (m + q) (xs ++ news) X' → Fr n ds ((d, v') :: L) a → Hp w0 M (X' ++ Z) w → OpsW P r all Q rest a w) :
    OpsW P r all Q (⟨some d, .call ⟨.builtin .append, #[x, y], #[t, t]⟩, ty, pos, af, gd⟩ :: rest) a w := by
  obtain ⟨hxl, hown⟩ := ho
  unfold elemB at ht
  split at ht
  · rename_i e0 hu
    split at ht
    · rename_i i hi
      split at ht
      · rename_i z0 hz
        split at ht
        · rename_i hzs
          simp only [Option.some.injEq, Prod.mk.injEq] at ht
          obtain ⟨rfl, rfl, rfl, rfl⟩ := ht
          have hnb := hh.at (i := 0) rfl
          have hnews : ∀ j u, news[j]? = some u → w.cell? ((⟨Bn, 0, none⟩ : Addr).add j) = some u := fun j u hj => by
            rw [add_spot, Nat.zero_add]
            subst hcs
            rw [Array.getElem?_toList] at hj
            simp [World.cell?, hnb, hj]
          have h1' : ∀ u ∈ news, u.oneCell' = true := List.all_eq_true.1 h1
          have hrest : Hp w0 M Z w := hh.less (.cons _ (List.sublist_append_right _ _))
          have hlen : (xs ++ news).length = (m + q) * i.size := by rw [List.length_append, hxl, hl, Nat.add_mul]
          have hgo : ∀ (v' : Value) (w' : World), (Builtin.append_ #[t, t] ty #[v, .slice (some ⟨Bn, 0, none⟩) q q]).run P w = .ok v' w' →
              (execOp a.eval ⟨some d, .call ⟨.builtin .append, #[x, y], #[t, t]⟩, ty, pos, af, gd⟩).run P w = .ok (.value v') w' := fun v' w' hr => by
            simp only [execOp, resolve, invoke, builtin, Sem.run_bind, Sem.run_pure, Result.andThen_ok, List.map_toArray, List.map_cons, List.map_nil, hf.agree _ _ hx, hf.agree _ _ hy, hr]
          -- a new block
          have fresh : ∀ (old : Nat), old ≤ m + q → OwnSl e0 i.size (.slice (some ⟨w.heap.size, 0, none⟩) (m + q) (grownCap w (m + q) old e0)) (m + q) (xs ++ news)
              [(w.heap.size, .cells (xs.toArray ++ news.toArray ++ Builtin.zeroCells z0.cells (grownCap w (m + q) old e0 - (m + q))) e0 (0, 0))] := by
            intro old _
            have hge := grownCap_ge w (m + q) old e0
            refine ⟨hlen, .inr ⟨_, _, _, rfl, rfl, hge, grownCap_le_maxLen w (m + q) old e0 h63, ?_, ?_⟩⟩
            · simp only [Array.size_append, List.size_toArray, size_zeroCells, hzs.1, hxl, hl, ← Nat.add_mul]
              congr 1; omega
            · simp only [Array.toList_append, List.append_assoc]
              rw [← List.append_assoc, ← hlen]
              exact List.take_left
          have hal : ∀ o, Hp w0 M ((w.heap.size, o) :: Z) (w.drew.alloc o) := fun o => by
            have := (hrest.drawn (w.drawn + 1)).alloc o
            exact this
          rcases hown with ⟨rfl, rfl, rfl⟩ | ⟨B, cap, cur, rfl, rfl, h3, h4, h5, h6⟩
          · have hx0 : xs = [] := List.eq_nil_of_length_eq_zero (by simpa using hxl)
            subst hx0
            by_cases hq : q = 0
            · subst hq
              have hn0 : news = [] := List.eq_nil_of_length_eq_zero (by simpa using hl)
              subst hn0
              refine opsW_value (hg.wanted hf) rfl (hgo (.slice none 0 0) w ?_) (k _ [] _ _ (OwnSl.nil _ _) (hf.put (blt_lt hn) _) hrest)
              simp [Builtin.append_, run_underlying hu, sizeOf, typeInfo, hi, Builtin.lenOf, Builtin.firstCells, loadCells, loadCellsFrom]
            · have hr := run_append_nil (P := P) w t ty e0 i z0 hu hi hz ⟨Bn, 0, none⟩ q q news hl hnews (by omega) (by simp only [maxLen] at h63; omega) (by have hb := hby; simp only [Nat.zero_add] at hb; omega)
              have hfr := fresh 0 (by omega)
              simp only [Nat.zero_add, List.nil_append, Array.empty_append] at hfr
              refine opsW_value (hg.wanted hf) rfl (hgo _ _ hr) (k _ [(w.heap.size, _)] _ _ ?_ (hf.put (blt_lt hn) _) (hal _))
              simpa using hfr
          · have hb := hh.at (i := 1) rfl
            by_cases hroom : m + q ≤ cap
            · have hfit : m * i.size + news.length ≤ cur.size := by rw [hl, h5, ← Nat.add_mul]; exact Nat.mul_le_mul_right _ hroom
              have hr := run_append_room (P := P) w t ty e0 i hu hi B m cap cur hb ⟨Bn, 0, none⟩ q q news hl hnews h1' hroom hfit
              have ht2 := hh.turn (i := 1) rfl (ext_setRow w B (cur.toList.take (m * i.size) ++ news ++ cur.toList.drop (m * i.size + news.length)).toArray) (setRow_heap w B cur _ e0 _ hb)
              refine opsW_value (hg.wanted hf) rfl (hgo _ _ hr) (k _ [(B, .cells (cur.toList.take (m * i.size) ++ news ++ cur.toList.drop (m * i.size + news.length)).toArray e0 (0, 0))] _ _ ?_ (hf.put (blt_lt hn) _) (ht2.less (.cons _ (List.Sublist.refl _))))
              refine ⟨hlen, .inr ⟨B, cap, _, rfl, rfl, hroom, h4, ?_, ?_⟩⟩
              · simp only [List.size_toArray, List.length_append, List.length_take, List.length_drop, Array.length_toList]
                omega
              · rw [h6, ← hlen]
                exact List.take_left
            · have holds : ∀ j u, xs[j]? = some u → w.cell? ((⟨B, 0, none⟩ : Addr).add j) = some u := fun j u hj => by
                rw [add_spot, Nat.zero_add]
                have : cur[j]? = some u := by
                  rw [← h6, List.getElem?_take] at hj
                  split at hj
                  · rwa [Array.getElem?_toList] at hj
                  · cases hj
                simp [World.cell?, hb, this]
              have hr := run_append_grow (P := P) w t ty e0 i z0 hu hi hz ⟨B, 0, none⟩ m cap xs hxl holds ⟨Bn, 0, none⟩ q q news hl hnews (by omega) (by simp only [maxLen] at h63; omega) (growslice_fits (by omega) hby)
              exact opsW_value (hg.wanted hf) rfl (hgo _ _ hr) (k _ [(w.heap.size, _)] _ _ (fresh cap (by omega)) (hf.put (blt_lt hn) _) (hal _))
        · simp at ht
      · simp at ht
    · simp at ht
  · simp at ht
end
end Go.Sy

namespace Go.Sy
open Go
/-- A struct type of three integers, one after the other. -/
def eq3B (P : Program) (t : TypeId) : Bool :=
  match P.underlying t with
  | some (.struct fs) => match fs.toList with
    | [f, g, h] => decide (f.name ≠ "_" ∧ g.name ≠ "_" ∧ h.name ≠ "_" ∧ f.offset = 0 ∧ g.offset = 1 ∧ h.offset = 2) && intB f.type && intB g.type && intB h.type && !P.stoodInHeld t && !P.eqGuardType P.depth t
    | _ => false
  | _ => false
where intB (u : TypeId) : Bool := match P.underlying u with | some (.int _) => true | _ => false
section
variable {P : Program} {C : World → Prop} {L : List (Nat × Value)} {dd : Option Tmp} {ty : TypeId} {pos : String} {af : Array Edge} {gd : Option (Nat × Bool)}
theorem intB_ex {u : TypeId} (h : eq3B.intB P u = true) : ∃ k, P.underlying u = some (.int k) := by
  unfold eq3B.intB at h
  split at h
  · exact ⟨_, by assumption⟩
  · simp at h
theorem run_eqF (d : Nat) (f : Field) (fs : List Field) (xs ys : Array Value) (k : IntKind) (p q : Int) (w : World) (hn : f.name ≠ "_") (hi : eq3B.intB P f.type = true)
    (hx : xs[f.offset]? = some (.int k p)) (hy : ys[f.offset]? = some (.int k q)) :
    (Op.eqFields (d + 1) xs ys (f :: fs)).run P w = if p = q then (Op.eqFields (d + 1) xs ys fs).run P w else .ok false w := by
  obtain ⟨j, hj⟩ := intB_ex hi
  have hs : scalB P f.type = true := by unfold scalB; rw [hj]
  have e : ∀ w, (Op.equalIn (d + 1) f.type (.int k p) (.int k q)).run P w = .ok (p == q) w := fun w => by simp [Op.equalIn, run_underlying hj]
  simp [Op.eqFields, hn, part, run_isAgg_scal hs, hx, hy, e]
theorem yv_eq3 {t t' : TypeId} {x y : Operand} {k1 k2 k3 : IntKind} {p1 p2 p3 q1 q2 q3 : Int} (ht : eq3B P t = true)
    (hx : ev L x = some (.agg #[.int k1 p1, .int k2 p2, .int k3 p3])) (hy : ev L y = some (.agg #[.int k1 q1, .int k2 q2, .int k3 q3])) :
    Yv P C L ⟨dd, .binOp .eql t x y t', ty, pos, af, gd⟩ (.bool (decide (p1 = q1 ∧ p2 = q2 ∧ p3 = q3))) := fun ρ hρ w _ => by
  unfold eq3B at ht
  split at ht
  · rename_i fs hfs
    split at ht
    · rename_i f g h hl
      simp at ht
      obtain ⟨⟨⟨⟨⟨⟨n1, n2, n3, o1, o2, o3⟩, i1⟩, i2⟩, i3⟩, hst⟩, hgd⟩ := ht
      have hfo : P.fieldsOf t = fs := by unfold Program.fieldsOf; rw [hfs]
      simp only [execOp, hρ _ _ hx, hρ _ _ hy]
      have e := run_eqGuard_agg (P := P) w .eql t x y #[.int k1 p1, .int k2 p2, .int k3 p3] #[.int k1 q1, .int k2 q2, .int k3 q3] hgd
      have e2 := run_eql_struct (P := P) w t #[.int k1 p1, .int k2 p2, .int k3 p3] #[.int k1 q1, .int k2 q2, .int k3 q3]
      have e3 := run_equalIn_struct (P := P) w 9999 t #[.int k1 p1, .int k2 p2, .int k3 p3] #[.int k1 q1, .int k2 q2, .int k3 q3] (by rw [hfo]; exact hfs) hst
      rw [hfo, hl] at e3
      rw [show (9999 : Nat) = 9998 + 1 from rfl, run_eqF 9998 f _ _ _ k1 p1 q1 w n1 i1 (by rw [o1]; rfl) (by rw [o1]; rfl), run_eqF 9998 g _ _ _ k2 p2 q2 w n2 i2 (by rw [o2]; rfl) (by rw [o2]; rfl), run_eqF 9998 h _ _ _ k3 p3 q3 w n3 i3 (by rw [o3]; rfl) (by rw [o3]; rfl)] at e3
      rw [e3] at e2
      simp [e, e2, Op.eqFields]
      by_cases h1 : p1 = q1 <;> by_cases h2 : p2 = q2 <;> by_cases h3 : p3 = q3 <;> simp [h1, h2, h3]
    · simp at ht
  · simp at ht
end
end Go.Sy

namespace Go.Sy
open Go Go.Proofs
/-- What is known of the blocks, with a memo map of which only the law of its entries is known. -/
def Mw (k k' : IntKind) (F : Int → Int) (u : World) (M : List Nat) (H : List (Nat × Obj)) (bm : Nat) (w : World) : Prop := ∃ es cm, Memo k k' F es ∧ Hp u M ((bm, .map es cm) :: H) w
section
variable {k k' : IntKind} {F : Int → Int} {u w : World} {M : List Nat} {H : List (Nat × Obj)} {bm : Nat}
theorem Mw.of {es : Array MapEntry} {cm : Nat} (hM : Memo k k' F es) (hh : Hp u M ((bm, .map es cm) :: H) w) : Mw k k' F u M H bm w := ⟨es, cm, hM, hh⟩
theorem Mw.drawn (h : Mw k k' F u M H bm w) (n : Nat) (hn : w.drawn ≤ n := by exact Nat.le_succ _) : Mw k k' F u M H bm { w with drawn := n } := let ⟨es, cm, h1, h2⟩ := h; ⟨es, cm, h1, h2.drawn n hn⟩
theorem Mw.at (h : Mw k k' F u M H bm w) {i b : Nat} {o : Obj} (hi : H[i]? = some (b, o)) : w.heap[b]? = some o := let ⟨_, _, _, h2⟩ := h; h2.at (i := i + 1) hi
theorem Mw.oldM (h : Mw k k' F u M H bm w) {b : Nat} {o : Obj} (hb : u.heap[b]? = some o) (hm : b ∉ M) : w.heap[b]? = some o := let ⟨_, _, _, h2⟩ := h; h2.oldM hb hm
end
section
variable {P : Program} {k k' : IntKind} {F : Int → Int} {u : World} {M : List Nat} {H : List (Nat × Obj)} {bm n : Nat} {ds : List Deferred} {L : List (Nat × Value)} {a : Act}
  {all : Array Oper} {rest : List Oper} {v : Value} {d : Nat} {ty : TypeId} {pos : String} {af : Array Edge} {gd : Option (Nat × Bool)} {Q : Act → Prop}
/-- A call that may write into the memo. -/
theorem q_callM {fop : Operand} {args : List Operand} {ats : Array TypeId} {f : FuncId} {fs cs : Array Value} {vs : List Value} {av : Array Value} (hf : Fr n ds L a) (hE : Enters P f)
    (hfv : ev L fop = some (.func (.func f) fs cs)) (hargs : evs L args = some vs) (hav : fs ++ vs.toArray ++ cs = av) (hg : GOn all L ⟨some d, .call ⟨.value fop, args.toArray, ats⟩, ty, pos, af, gd⟩) (hn : Nat.blt d n = true)
    (hc : ∀ w es cm, Memo k k' F es → Hp u M ((bm, .map es cm) :: H) w → Calls P f av w (Ret fun v' w' => v' = v ∧ ∃ es' c', Memo k k' F es' ∧ Hp w [bm] [(bm, .map es' c')] w'))
    (K : ∀ (a : Act), Fr n ds ((d, v) :: L) a → wpQuiet P all (Mw k k' F u M H bm) Q rest a) :
    wpQuiet P all (Mw k k' F u M H bm) Q (⟨some d, .call ⟨.value fop, args.toArray, ats⟩, ty, pos, af, gd⟩ :: rest) a :=
  q_call hf hE hfv hargs hav hg hn (fun w ⟨es, cm, hM, hh⟩ => Calls.ret_mono (hc w es cm hM hh) fun _ _ ⟨h1, es', c', h2, h3⟩ => ⟨h1, es', c', h2, hh.turn (i := 0) rfl h3.ext (h3.at (i := 0) rfl)⟩) K
end
end Go.Sy

namespace Go.Sy
open Go Go.Proofs Go.RowKit
section
variable {P : Program} {r : Option Nat} {ops : Array Oper} {md : Region.Mode} {C : World → Prop}

/-- One value in all worlds of a class, and the world stays as it is. -/
def YieldsC (P : Program) (ops : Array Oper) (C : World → Prop) (o : Oper) (v : Value) (a : Act) : Prop :=
  (Region.wanted o (yielded ops a.tmps) = true ∧ ∀ w, C w → (execOp a.eval o).run P w = .ok (.value v) w) ∨ (Region.wanted o (yielded ops a.tmps) = false ∧ v = undef)
theorem YieldsC.of_same {o : Oper} {v : Value} {a a' : Act} (hy : YieldsC P ops C o v a) (he : execOp a'.eval o = execOp a.eval o)
    (hw : Region.wanted o (yielded ops a'.tmps) = Region.wanted o (yielded ops a.tmps)) : YieldsC P ops C o v a' := by
  unfold YieldsC at *; rw [he, hw]; exact hy

abbrev QF : Exit → Act → World → Prop := fun _ _ _ => False

theorem YieldsC.wpOp {i : Nat} {o : Oper} {v : Value} {a : Act} {w : World} (hd : isDefer o.op = false) (hi : ops[i]? = some o) (hy : YieldsC P ops C o v a) (hC : C w)
    {K : Act → World → Prop} (h : K (a.put o.dst v) w) : wpOpIn (FR r) 0 P ops QF i K a w := by
  unfold Go.wpOpIn
  simp only [hi]
  rcases hy with ⟨hw, hv⟩ | ⟨hw, rfl⟩
  · simp only [hw, if_true, Oper.wpIn, semAt_of hd, hv w hC, Oper.uponIn]; exact ⟨fun _ _ => trivial, h⟩
  · simp only [hw, Bool.false_eq_true, if_false]; exact ⟨fun _ _ => trivial, h⟩

theorem wpOp_putC {j : Nat} {oi oj : Oper} {v : Value} (hd : isDefer oj.op = false) (hj : ops[j]? = some oj) (hap : oi.apart ops oj = true)
    (hsi : ∀ cs b, oi.op ≠ .select cs b) (hsj : ∀ cs b, oj.op ≠ .select cs b) {K : Act → World → Prop} {a : Act} {w : World}
    (hy : YieldsC P ops C oi v a) (h : wpOpIn (FR r) 0 P ops QF j K (a.put oi.dst v) w) :
    wpOpIn (FR r) 0 P ops QF j (fun a' w' => YieldsC P ops C oi v a' ∧ K (a'.put oi.dst v) w') a w := by
  obtain ⟨h1, h2, h3⟩ := Oper.apart_spec hap
  have keep : ∀ (a : Act), YieldsC P ops C oi v a → ∀ u, YieldsC P ops C oi v (a.put oj.dst u) := fun a hy u =>
    hy.of_same (execOp_put oi hsi a oj.dst u h3) (wanted_put oi a oj.dst u h3)
  unfold wpOpIn at *
  simp only [hj] at *
  rw [wanted_put oj a oi.dst v h1] at h
  split
  · rename_i hw
    simp only [hw, if_true] at h
    unfold Oper.wpIn at *
    refine ⟨fun _ _ => trivial, ?_⟩
    have h := h.2
    rw [semAt_of hd, execOp_put oj hsj a oi.dst v h1] at h
    rw [semAt_of hd]
    generalize (execOp a.eval oj).run P w = res at *
    cases res with
    | ok x w' =>
      cases x <;> simp only [Oper.uponIn] at h ⊢
      case value u => exact ⟨keep a hy u, by rw [← Act.put_comm a v u h2]; exact h⟩
      case skip => exact ⟨keep a hy _, by rw [← Act.put_comm a v undef h2]; exact h⟩
      case defer d =>
        have hy2 : YieldsC P ops C oi v { a with defers := d :: a.defers } := hy.of_same rfl rfl
        refine ⟨keep _ hy2 _, ?_⟩
        rw [← Act.put_comm _ v undef h2, ← Act.put_defers]
        exact h
      case enter f args =>
        refine ⟨h.1, CallsIn.mono h.2 fun e w'' he => ?_⟩
        cases e with
        | returned u => exact ⟨keep a hy u, by rw [← Act.put_comm a v u h2]; exact he⟩
        | panicked c => exact he
        | outgrown => exact he
      case row row args => exact ⟨h.1, RowsIn.mono h.2 fun u w'' he => ⟨keep a hy u, by rw [← Act.put_comm a v u h2]; exact he⟩⟩
      case round l f tmps assign body =>
        refine ⟨h.1, RoundIn.mono h.2 fun e w'' he => ?_⟩
        cases e with
        | returned u => exact ⟨keep a hy u, by rw [← Act.put_comm a v u h2]; exact he⟩
        | panicked c => exact he
        | outgrown => exact he
    | halt x w' =>
      cases x <;> simp only [Oper.uponIn] at h ⊢
      case panic u => exact h.elim
  · rename_i hw
    simp only [hw] at h
    exact ⟨fun _ _ => trivial, keep a hy _, by rw [← Act.put_comm a v undef h2]; exact h.2⟩

theorem wpIn_qf {o : Oper} {a : Act} {w : World} {K : Act → World → Prop} {Q Q' : Exit → Act → World → Prop} (h1 : ∀ c a w, Q (.panic c) a w → Q' (.panic c) a w) (h2 : LetsOut Q → LetsOut Q')
    (hh : o.wpIn (FR r) 0 P a w K Q) : o.wpIn (FR r) 0 P a w K Q' := by
  unfold Oper.wpIn at *
  refine ⟨hh.1, ?_⟩
  have hh := hh.2
  generalize (o.semAt (FR r).round a.eval).run P w = res at *
  cases res with
  | ok x w' =>
    cases x <;> simp only [Oper.uponIn] at hh ⊢ <;>
      first
        | exact hh
        | exact ⟨hh.1, CallsIn.mono hh.2 (fun e w'' he => by cases e <;> first | exact he | exact h1 _ _ _ he | exact h2 he)⟩
        | exact ⟨hh.1, RoundIn.mono hh.2 (fun e w'' he => by cases e <;> first | exact he | exact h1 _ _ _ he | exact h2 he)⟩
  | halt x w' => cases x <;> simp only [Oper.uponIn] at hh ⊢ <;> exact h1 _ _ _ hh

theorem wpOp_qf {i : Nat} {a : Act} {w : World} {K : Act → World → Prop} {Q Q' : Exit → Act → World → Prop} (h1 : ∀ c a w, Q (.panic c) a w → Q' (.panic c) a w) (h2 : LetsOut Q → LetsOut Q')
    (hh : wpOpIn (FR r) 0 P ops Q i K a w) : wpOpIn (FR r) 0 P ops Q' i K a w := by
  unfold wpOpIn at *
  split
  · rename_i ho; simp only [ho] at hh; exact hh
  · rename_i o ho
    simp only [ho] at hh
    split
    · rename_i hw; simp only [hw, if_true] at hh; exact wpIn_qf h1 h2 hh
    · rename_i hw; simp only [hw] at hh; exact hh

/-- Does an operation wait, be it through others, for another? -/
def reach (md : Region.Mode) (ops : Array Oper) : Nat → Nat → Nat → Bool
  | 0, _, _ => false
  | f + 1, q, j => match ops[j]? with
    | some o => o.after.toList.any fun e => Region.binds md e && (e.on == q || reach md ops f q e.on)
    | none => false
def Down (md : Region.Mode) (ops : Array Oper) (listed : Array Bool) : Prop := ∀ j oj, ops[j]? = some oj → listed.getD j false = true → ∀ e ∈ oj.after, Region.binds md e = true → listed.getD e.on false = true
theorem Down.none (m : Nat) : Down md ops (Array.replicate m false) := fun j oj _ h => by rw [getD_replicate_false] at h; cases h
theorem Down.set {listed : Array Bool} (h : Down md ops listed) {k : Nat} (hk : k ∈ Region.ready md ops listed) : Down md ops (listed.setIfInBounds k true) := fun j oj hj hl e he hb => by
  refine getD_set_true ?_
  by_cases hjk : k = j
  · subst hjk
    obtain ⟨_, o, ho, hall⟩ := mem_ready.1 hk
    rw [hj] at ho; cases ho
    exact hall e he hb
  · rw [getD_set_ne false hjk] at hl
    exact h j oj hj hl e he hb
theorem reach_listed {listed : Array Bool} (h : Down md ops listed) {q : Nat} (hq : listed.getD q true = false) : ∀ (f j : Nat), reach md ops f q j = true → listed.getD j false = true → False
  | 0, j, hr, _ => by simp [reach] at hr
  | f + 1, j, hr, hl => by
    unfold reach at hr
    split at hr
    · rename_i o ho
      simp only [List.any_eq_true, Bool.and_eq_true, Bool.or_eq_true, beq_iff_eq] at hr
      obtain ⟨e, he, hb, hon⟩ := hr
      have h1 := h j o ho hl e (Array.mem_toList_iff.1 he) hb
      rcases hon with hon | hon
      · rw [hon] at h1
        rcases Nat.lt_or_ge q listed.size with h' | h'
        · simp [h'] at hq h1; rw [hq] at h1; cases h1
        · simp [Array.getElem?_eq_none h'] at h1
      · exact reach_listed h hq f e.on hon h1
    · cases hr
theorem reach_ready {listed : Array Bool} (h : Down md ops listed) {q : Nat} (hq : listed.getD q true = false) {f j : Nat} (hr : reach md ops f q j = true) (hj : j ∈ Region.ready md ops listed) : False := by
  cases f with
  | zero => simp [reach] at hr
  | succ f =>
    obtain ⟨_, o, ho, hall⟩ := mem_ready.1 hj
    unfold reach at hr
    rw [ho] at hr
    simp only [List.any_eq_true, Bool.and_eq_true, Bool.or_eq_true, beq_iff_eq] at hr
    obtain ⟨e, he, hb, hon⟩ := hr
    have h1 := hall e (Array.mem_toList_iff.1 he) hb
    rcases hon with hon | hon
    · rw [hon] at h1
      rcases Nat.lt_or_ge q listed.size with h' | h'
      · simp [h'] at hq h1; rw [hq] at h1; cases h1
      · simp [Array.getElem?_eq_none h'] at h1
    · exact reach_listed h hq f e.on hon h1

end

section
variable {P : Program} {r : Option Nat} {ops : Array Oper} {C : World → Prop} {qs late : List Nat} {Q : Act → World → Prop} {k n : Nat} {l : List Nat} {ds : List Deferred} {L : List (Nat × Value)} {a : Act} {w : World} {o : Oper} {d : Nat} {v : Value}
end
end Go.Sy

namespace Go.Sy
open Go Go.Proofs
section
variable {P : Program} {C : World → Prop} {L : List (Nat × Value)} {dd : Option Tmp} {ty : TypeId} {pos : String} {af : Array Edge} {gd : Option (Nat × Bool)}
end
section
variable {P : Program} {C : World → Prop} {L : List (Nat × Value)} {dd : Option Tmp} {ty : TypeId} {pos : String} {af : Array Edge} {gd : Option (Nat × Bool)}
end
section
variable {P : Program} {C : World → Prop} {L : List (Nat × Value)} {dd : Option Tmp} {ty : TypeId} {pos : String} {af : Array Edge} {gd : Option (Nat × Bool)}
end
end Go.Sy

namespace Go.Sy
open Go Go.Proofs Go.RowKit
section
variable {P : Program} {r : Option Nat} {all : Array Oper} {Q : Exit → Act → World → Prop} {rest : List Oper} {a : Act} {w w0 : World} {M : List Nat} {H : List (Nat × Obj)} {n : Nat} {ds : List Deferred} {L : List (Nat × Value)} {v : Value} {d : Nat}
  {ty : TypeId} {pos : String} {af : Array Edge} {gd : Option (Nat × Bool)}
end
section
variable {P : Program} {r : Option Nat} {Q : Exit → Act → World → Prop} {n : Nat} {ds : List Deferred} {L : List (Nat × Value)} {a : Act} {w : World}
/-- A point at which several ways meet: what is written before it is told by a state. -/
theorem sy_cut {σ : Type} {x y : Code} (ms : List Nat) (ov : σ → List (Nat × Value)) (hp : σ → World → Prop) (hf : Fr n ds L a)
    (hx : WP P r x (Exit.then (fun a' w' => ∃ s, hp s w' ∧ Fr n ds (ov s ++ rmL ms L) a') Q) a w)
    (hy : ∀ s a w, hp s w → Fr n ds (ov s ++ rmL ms L) a → WP P r y Q a w) : WP P r (.seq x y) Q a w := by
  refine sy_seq (sy_mono hx fun e a w he => ?_)
  cases e with
  | normal => obtain ⟨s, h1, h2⟩ := he; exact hy s a w h1 h2
  | _ => exact he
end
end Go.Sy

namespace Go.Sy
open Go Go.Proofs Go.RowKit
theorem atI {H : List (Nat × Obj)} {i b : Nat} {o : Obj} (h : H[i]? = some (b, o)) : H[i]? = some (b, o) := h
section
variable {P : Program} {r : Option Nat} {all : Array Oper} {Q : Exit → Act → World → Prop} {o : Oper} {rest : List Oper} {a : Act} {w w0 : World} {n : Nat} {ds : List Deferred} {L : List (Nat × Value)} {C : World → Prop} {v : Value} {d : Nat} {M : List Nat} {H : List (Nat × Obj)}
  {ty : TypeId} {pos : String} {af : Array Edge} {gd : Option (Nat × Bool)} {dd : Option Tmp}
theorem gon' {all : Array Oper} {L : List (Nat × Value)} {o : Oper} {j t : Nat} {b c : Bool} (h1 : o.guard = some (j, b)) (h2 : (all[j]?).bind (·.dst) = some t) (h3 : lk L t = some (.bool c))
    (h4 : c = b := by first | assumption | rfl | (simp; done) | exact decide_eq_true (by omega) | exact decide_eq_false (by omega) | (simp; omega)) : GOn all L o := gon h1 h2 h3 h4
theorem goff' {all : Array Oper} {L : List (Nat × Value)} {o : Oper} {j t : Nat} {b c : Bool} (h1 : o.guard = some (j, b)) (h2 : (all[j]?).bind (·.dst) = some t) (h3 : lk L t = some (.bool c))
    (h4 : c = !b := by first | assumption | rfl | (simp; done) | exact decide_eq_true (by omega) | exact decide_eq_false (by omega) | (simp; omega)) : GOff all L o := goff h1 h2 h3 h4
/-- One operation that yields a value. -/
theorem o_v (hf : Fr n ds L a) (hh : Hp w0 M H w) (y : Yv P (Hp w0 M H) L o v) (k : ∀ a, Fr n ds ((d, v) :: L) a → OpsW P r all Q rest a w)
    (hg : GOn all L o := by first | exact .inl rfl | exact gon' rfl rfl rfl) (hnd : isDefer o.op = false := by rfl) (hd : o.dst = some d := by rfl) (hn : Nat.blt d n = true := by rfl) : OpsW P r all Q (o :: rest) a w := ops_v hf hh y hg hnd hd hn k
theorem o_off (hf : Fr n ds L a) (k : ∀ a, Fr n ds ((d, undef) :: L) a → OpsW P r all Q rest a w)
    (hg : GOff all L o := by first | exact goffu rfl rfl rfl | exact goff' rfl rfl rfl) (hd : o.dst = some d := by rfl) (hn : Nat.blt d n = true := by rfl) : OpsW P r all Q (o :: rest) a w := ops_off hf hg hd hn k
theorem oq_v {Q : Act → Prop} (hf : Fr n ds L a) (y : Yv P C L o v) (k : ∀ a, Fr n ds ((d, v) :: L) a → wpQuiet P all C Q rest a)
    (hg : GOn all L o := by first | exact .inl rfl | exact gon' rfl rfl rfl) (hd : o.dst = some d := by rfl) (hn : Nat.blt d n = true := by rfl) : wpQuiet P all C Q (o :: rest) a := q_v hf y hg hd hn k
theorem oq_off {Q : Act → Prop} (hf : Fr n ds L a) (k : ∀ a, Fr n ds ((d, undef) :: L) a → wpQuiet P all C Q rest a)
    (hg : GOff all L o := by first | exact goffu rfl rfl rfl | exact goff' rfl rfl rfl) (hd : o.dst = some d := by rfl) (hn : Nat.blt d n = true := by rfl) : wpQuiet P all C Q (o :: rest) a := q_off hf hg hd hn k
theorem o_end {K : Act → World → Prop} (h : K a w) : OpsW P r all (Exit.then K Q) [] a w := h
theorem y_pt {c x y : Operand} {b : Bool} {u : Value} (hc : ev L c = some (.bool b)) (hx : ev L x = some u) (hb : b = true := by first | assumption | rfl | (simp; done) | exact decide_eq_true (by omega) | (simp; omega)) :
    Yv P C L ⟨dd, .pick c x y, ty, pos, af, gd⟩ u := yv_pick_t hc hb hx
theorem y_pf {c x y : Operand} {b : Bool} {u : Value} (hc : ev L c = some (.bool b)) (hy : ev L y = some u) (hb : b = false := by first | assumption | rfl | (simp; done) | exact decide_eq_false (by omega) | (simp; omega)) :
    Yv P C L ⟨dd, .pick c x y, ty, pos, af, gd⟩ u := yv_pick_f hc hb hy
theorem y_add {t t' : TypeId} {x y : Operand} {p q : Int} (hx : ev L x = some (.int .i64 p)) (hy : ev L y = some (.int .i64 q)) (h1 : -9223372036854775808 ≤ p + q := by omega) (h2 : p + q ≤ 9223372036854775807 := by omega) :
    Yv P C L ⟨dd, .binOp .add t x y t', ty, pos, af, gd⟩ (.int .i64 (p + q)) := yv_add hx hy h1 h2
theorem y_sub {t t' : TypeId} {x y : Operand} {p q : Int} (hx : ev L x = some (.int .i64 p)) (hy : ev L y = some (.int .i64 q)) (h1 : -9223372036854775808 ≤ p - q := by omega) (h2 : p - q ≤ 9223372036854775807 := by omega) :
    Yv P C L ⟨dd, .binOp .sub t x y t', ty, pos, af, gd⟩ (.int .i64 (p - q)) := yv_sub hx hy h1 h2
theorem y_mul {t t' : TypeId} {x y : Operand} {p q : Int} (hx : ev L x = some (.int .i64 p)) (hy : ev L y = some (.int .i64 q)) (h1 : -9223372036854775808 ≤ p * q := by omega) (h2 : p * q ≤ 9223372036854775807 := by omega) :
    Yv P C L ⟨dd, .binOp .mul t x y t', ty, pos, af, gd⟩ (.int .i64 (p * q)) := yv_mul hx hy h1 h2
theorem y_ix {t e : TypeId} {sz : Nat} {x i : Operand} {b off len cap : Nat} {k : IntKind} {j : Int} (ht : sliceElem P t = some (e, sz)) (hx : ev L x = some (.slice (some ⟨b, off, none⟩) len cap))
    (hi : ev L i = some (.int k j)) (h0 : 0 ≤ j := by omega) (h1 : j < len := by omega) : Yv P C L ⟨dd, .indexAddr t x i, ty, pos, af, gd⟩ (ptr b (off + j.toNat * sz)) := yv_indexAddr ht hx hi h0 h1
theorem y_ia {t e : TypeId} {m sz : Nat} {x i : Operand} {b off : Nat} {k : IntKind} {j : Int} (ht : arrayElem P t = some (m, e, sz)) (hx : ev L x = some (ptr b off))
    (hi : ev L i = some (.int k j)) (h0 : 0 ≤ j := by omega) (h1 : j < m := by omega) : Yv P C L ⟨dd, .indexAddr t x i, ty, pos, af, gd⟩ (ptr b (off + j.toNat * sz)) := yv_indexArr ht hx hi h0 h1
theorem y_ld {t : TypeId} {x : Operand} {b off : Nat} {c : Array Value} {e : TypeId} {fr : Nat × Nat} {v : Value} (ht : scalB P t = true) (hx : ev L x = some (ptr b off))
    (hb : ∀ w, C w → w.heap[b]? = some (.cells c e fr) := by
      intro _ h
      first | exact h.at (i := 0) rfl | exact h.at (i := 1) rfl | exact h.at (i := 2) rfl | exact h.at (i := 3) rfl | exact h.at (i := 4) rfl | exact h.at (i := 5) rfl | exact h.at (i := 6) rfl | exact h.at (i := 7) rfl | exact h.at (i := 8) rfl | exact h.at (i := 9) rfl | exact h.at (i := 10) rfl | exact h.at (i := 11) rfl | exact h.old (by assumption) | exact h.oldM (by assumption) (by assumption))
    (hv : c[off]? = some v := by first | rfl | assumption) : Yv P C L ⟨dd, .load t x, ty, pos, af, gd⟩ v := yv_load ht hx hb hv
theorem y_lds {t : TypeId} {k : Nat} {x : Operand} {b off : Nat} {c : Array Value} {e : TypeId} {fr : Nat × Nat} {vs : List Value} (ht : aggB P t = some k) (hx : ev L x = some (ptr b off))
    (hb : ∀ w, C w → w.heap[b]? = some (.cells c e fr) := by
      intro _ h
      first | exact h.at (i := 0) rfl | exact h.at (i := 1) rfl | exact h.at (i := 2) rfl | exact h.at (i := 3) rfl | exact h.at (i := 4) rfl | exact h.at (i := 5) rfl | exact h.at (i := 6) rfl | exact h.at (i := 7) rfl | exact h.at (i := 8) rfl | exact h.at (i := 9) rfl | exact h.at (i := 10) rfl | exact h.at (i := 11) rfl | exact h.old (by assumption) | exact h.oldM (by assumption) (by assumption))
    (hv : cellsAt c off k = some vs := by first | assumption | rfl) : Yv P C L ⟨dd, .load t x, ty, pos, af, gd⟩ (.agg vs.toArray) := yv_loads ht hx hb hv
theorem o_box {t : TypeId} {x : Operand} (hf : Fr n ds L a) (hh : Hp w0 M H w) (k : ∀ (B : Nat) (a : Act) (w : World), Fr n ds ((d, ptr B 0) :: L) a → Hp w0 M ((B, .cells v.cells t) :: H) w → OpsW P r all Q rest a w)
    (hx : ev L x = some v := by rfl) (hg : GOn all L ⟨some d, .box t x, ty, pos, af, gd⟩ := by first | exact .inl rfl | exact gon' rfl rfl rfl) (hn : Nat.blt d n = true := by rfl) : OpsW P r all Q (⟨some d, .box t x, ty, pos, af, gd⟩ :: rest) a w := ops_box hf hh hx hg hn k
theorem o_alloc {t : TypeId} (hf : Fr n ds L a) (hh : Hp w0 M H w) (hz : zeroOf P t = some v) (k : ∀ (B : Nat) (a : Act) (w : World), Fr n ds ((d, ptr B 0) :: L) a → Hp w0 M ((B, .cells v.cells t) :: H) w → OpsW P r all Q rest a w)
    (hg : GOn all L ⟨some d, .alloc t, ty, pos, af, gd⟩ := by first | exact .inl rfl | exact gon' rfl rfl rfl) (hn : Nat.blt d n = true := by rfl) : OpsW P r all Q (⟨some d, .alloc t, ty, pos, af, gd⟩ :: rest) a w := ops_alloc hf hh hz hg hn k
theorem o_store {t e : TypeId} {x y : Operand} {k b off i : Nat} {c : Array Value} (hf : Fr n ds L a) (hh : Hp w0 M H w) (hk : ((P.info? t).map (·.size)) = some k)
    (K : ∀ (w : World), Hp w0 M (H.set i (b, .cells (spl c off v.cells.toList) e (0, 0))) w → OpsW P r all Q rest a w)
    (hx : ev L x = some (ptr b off) := by rfl)
    (hi : H[i]? = some (b, .cells c e (0, 0)) := by
      first | exact atI (i := 0) rfl | exact atI (i := 1) rfl | exact atI (i := 2) rfl | exact atI (i := 3) rfl | exact atI (i := 4) rfl | exact atI (i := 5) rfl | exact atI (i := 6) rfl | exact atI (i := 7) rfl | exact atI (i := 8) rfl | exact atI (i := 9) rfl | exact atI (i := 10) rfl | exact atI (i := 11) rfl)
    (hy : ev L y = some v := by rfl) (hv : v.cells.size = k := by rfl) (h1 : v.cells.toList.all (·.oneCell') = true := by rfl) (hl : Nat.ble (off + k) c.size = true := by first | rfl | exact Nat.ble_eq_true_of_le (by omega))
    (hg : GOn all L ⟨none, .store t x y, ty, pos, af, gd⟩ := by first | exact .inl rfl | exact gon' rfl rfl rfl) : OpsW P r all Q (⟨none, .store t x y, ty, pos, af, gd⟩ :: rest) a w := ops_store hf hh hx hi hy hk hv h1 hl hg K
theorem o_call {fop : Operand} {args : List Operand} {ats : Array TypeId} {f : FuncId} {fs cs : Array Value} {vs : List Value} {av : Array Value} {R : Value → World → Prop} (hf : Fr n ds L a) (hE : Enters P f)
    (hfv : ev L fop = some (.func (.func f) fs cs)) (hargs : evs L args = some vs) (hav : fs ++ vs.toArray ++ cs = av) (hc : Calls P f av w (Ret R)) (k : ∀ (v : Value) (a : Act) (w : World), R v w → Fr n ds ((d, v) :: L) a → OpsW P r all Q rest a w)
    (hg : GOn all L ⟨some d, .call ⟨.value fop, args.toArray, ats⟩, ty, pos, af, gd⟩ := by first | exact .inl rfl | exact gon' rfl rfl rfl) (hn : Nat.blt d n = true := by rfl) :
    OpsW P r all Q (⟨some d, .call ⟨.value fop, args.toArray, ats⟩, ty, pos, af, gd⟩ :: rest) a w := ops_call hf hE hfv hargs hav hg hn hc k
theorem oq_call {Q : Act → Prop} {fop : Operand} {args : List Operand} {ats : Array TypeId} {f : FuncId} {fs cs : Array Value} {vs : List Value} {av : Array Value} (hf : Fr n ds L a) (hE : Enters P f)
    (hfv : ev L fop = some (.func (.func f) fs cs)) (hargs : evs L args = some vs) (hav : fs ++ vs.toArray ++ cs = av) (hc : ∀ w, Hp w0 M H w → Calls P f av w (Ret fun u w' => u = v ∧ Ext [] w w')) (k : ∀ (a : Act), Fr n ds ((d, v) :: L) a → wpQuiet P all (Hp w0 M H) Q rest a)
    (hg : GOn all L ⟨some d, .call ⟨.value fop, args.toArray, ats⟩, ty, pos, af, gd⟩ := by first | exact .inl rfl | exact gon' rfl rfl rfl) (hn : Nat.blt d n = true := by rfl) :
    wpQuiet P all (Hp w0 M H) Q (⟨some d, .call ⟨.value fop, args.toArray, ats⟩, ty, pos, af, gd⟩ :: rest) a := q_callE hf hE hfv hargs hav hg hn hc k
theorem sy_sq {id : Nat} {l : List Oper} {y : Code} (h : OpsW P r l.toArray (Exit.then (WP P r y Q) Q) l a w) : WP P r (.seq (.region id l.toArray false) y) Q a w := sy_seq (sy_ops h)
theorem c_t {c : Operand} {x y : Code} {b : Bool} (hf : Fr n ds L a) (h : WP P r x Q a w) (hc : ev L c = some (.bool b) := by rfl) (hb : b = true := by first | assumption | rfl | (simp; done) | exact decide_eq_true (by omega) | (simp; omega)) : WP P r (.cond c x y) Q a w := sy_ct hf hc hb h
theorem c_f {c : Operand} {x y : Code} {b : Bool} (hf : Fr n ds L a) (h : WP P r y Q a w) (hc : ev L c = some (.bool b) := by rfl) (hb : b = false := by first | assumption | rfl | (simp; done) | exact decide_eq_false (by omega) | (simp; omega)) : WP P r (.cond c x y) Q a w := sy_cf hf hc hb h
end
end Go.Sy

namespace Go.Sy
open Go Go.Proofs Go.RowKit
section
variable {P : Program} {C : World → Prop} {L : List (Nat × Value)} {dd : Option Tmp} {ty : TypeId} {pos : String} {af : Array Edge} {gd : Option (Nat × Bool)}
theorem add_zero (a : Addr) : a.add 0 = a := by
  unfold Addr.add
  split <;> simp_all
theorem spl_one (c : Array Value) {off : Nat} (v : Value) (h : off < c.size) : spl c off [v] = c.setIfInBounds off v := by
  apply Array.ext'
  unfold spl
  rw [Array.toList_setIfInBounds, List.set_eq_take_append_cons_drop, if_pos (by simpa using h)]
  simp
end
section
variable {P : Program} {r : Option Nat} {all : Array Oper} {Q : Exit → Act → World → Prop} {rest : List Oper} {a : Act} {w w0 : World} {M : List Nat} {H : List (Nat × Obj)} {n : Nat} {ds : List Deferred} {L : List (Nat × Value)} {v : Value} {d : Nat}
  {ty : TypeId} {pos : String} {af : Array Edge} {gd : Option (Nat × Bool)}
end
end Go.Sy

namespace Go.Sy
open Go Go.Proofs Go.RowKit
/-- Orders: an operation of one value that is taken first; one, two or three effects that may come. -/
inductive OT where
  | fin
  | q (k : Nat) (t : OT)
  | e1 (k : Nat) (t : OT)
  | e2 (k : Nat) (t : OT) (k2 : Nat) (t2 : OT)
  | e3 (k : Nat) (t : OT) (k2 : Nat) (t2 : OT) (k3 : Nat) (t3 : OT)
section
variable {P : Program} {r : Option Nat} {ops : Array Oper} {md : Region.Mode} {C : World → Prop} {late : List Nat} {Q : Act → World → Prop}
end
section
variable {P : Program} {r : Option Nat} {ops : Array Oper} {C : World → Prop} {late : List Nat} {Q : Act → World → Prop} {k n : Nat} {t : OT} {ds : List Deferred} {L : List (Nat × Value)} {a : Act} {w : World} {o : Oper} {d : Nat} {v : Value}
end
end Go.Sy

namespace Go.Sy
open Go Go.Proofs
/-- Keys of a map that can be compared. -/
structure KeyOk (P : Program) (ke : TypeId) {κ : Type} [DecidableEq κ] (enc : κ → Value) : Prop where
  eq : ∀ p q w, (Op.equal ke (enc p) (enc q)).run P w = .ok (decide (p = q)) w
  chk : ∀ b p w, (Instr.checkKey b 10000 ke (enc p)).run P w = .ok () w
  kind : ∃ td, P.underlying ke = some td ∧ ∀ p q, Instr.sameNow td (enc p) (enc q) = none
  bits : ∀ p, Instr.sameBits 10000 (enc p) (enc p) = true
section
variable {P : Program}
end
/-- Each entry of a map is what it should be. -/
def MemoK {κ : Type} (enc : κ → Value) (k' : IntKind) (F : κ → Int) (es : Array MapEntry) : Prop := ∀ e ∈ es.toList, ∃ p, e.key = enc p ∧ e.val = .int k' (F p)
theorem MemoK.nil {κ : Type} (enc : κ → Value) (k' : IntKind) (F : κ → Int) : MemoK enc k' F #[] := fun e h => by simp at h
section
variable {P : Program} {κ : Type} [DecidableEq κ] {enc : κ → Value} {ke : TypeId} {k' : IntKind} {F : κ → Int}
variable {C : World → Prop} {L : List (Nat × Value)} {dd : Option Tmp} {ty : TypeId} {pos : String} {af : Array Edge} {gd : Option (Nat × Bool)}
variable {r : Option Nat} {all : Array Oper} {Q : Exit → Act → World → Prop} {rest : List Oper} {a : Act} {w w0 : World} {M : List Nat} {H : List (Nat × Obj)} {n : Nat} {ds : List Deferred} {d : Nat}
end
/-- Worlds in which a map is what it should be, whatever its entries are. -/
def CW {κ : Type} (enc : κ → Value) (k' : IntKind) (F : κ → Int) (u : World) (M : List Nat) (G : Array MapEntry → Nat → List (Nat × Obj)) (w : World) : Prop := ∃ es cm, MemoK enc k' F es ∧ Hp u M (G es cm) w
section
variable {κ : Type} {enc : κ → Value} {k' : IntKind} {F : κ → Int} {u w : World} {M : List Nat} {G : Array MapEntry → Nat → List (Nat × Obj)}
theorem CW.mk {es : Array MapEntry} {cm : Nat} (hM : MemoK enc k' F es) (hh : Hp u M (G es cm) w) : CW enc k' F u M G w := ⟨es, cm, hM, hh⟩
theorem CW.at (h : CW enc k' F u M G w) {i b : Nat} {o : Obj} (hi : (fun es cm => (G es cm)[i]?) = fun _ _ => some (b, o)) : w.heap[b]? = some o :=
  let ⟨es, cm, _, h2⟩ := h; h2.at (i := i) (congrFun (congrFun hi es) cm)
theorem CW.oldM (h : CW enc k' F u M G w) {b : Nat} {o : Obj} (hb : u.heap[b]? = some o) (hm : b ∉ M) : w.heap[b]? = some o := let ⟨_, _, _, h2⟩ := h; h2.oldM hb hm
theorem CW.ext (h : CW enc k' F u M G w) : Ext M u w := let ⟨_, _, _, h2⟩ := h; h2.ext
end
end Go.Sy

namespace Go.Sy
open Go Go.Proofs
section
variable {P : Program} {C : World → Prop} {L : List (Nat × Value)} {dd : Option Tmp} {ty : TypeId} {pos : String} {af : Array Edge} {gd : Option (Nat × Bool)}
theorem arrayElem_eq {t e : TypeId} {m sz : Nat} (ht : arrayElem P t = some (m, e, sz)) : P.underlying t = some (.array m e) ∧ ∃ i, P.info? e = some i ∧ i.size = sz := by
  unfold arrayElem at ht
  split at ht
  · rename_i n' e' he
    cases hin : P.info? e' with
    | none => rw [hin] at ht; simp at ht
    | some inf =>
      rw [hin] at ht; simp at ht
      obtain ⟨rfl, rfl, rfl⟩ := ht
      exact ⟨he, inf, hin, rfl⟩
  · simp at ht
theorem yv_idxS {t e : TypeId} {m sz : Nat} {x i : Operand} {cs : Array Value} {kk : IntKind} {j : Int} {v : Value} (ht : arrayElem P t = some (m, e, sz)) (hs : scalB P e = true) (hx : ev L x = some (.agg cs)) (hi : ev L i = some (.int kk j)) (hv : cs[j.toNat * sz]? = some v)
    (h0 : 0 ≤ j := by omega) (h1 : j < m := by omega) : Yv P C L ⟨dd, .index t x i, ty, pos, af, gd⟩ v := fun ρ hρ w _ => by
  obtain ⟨h2, inf, h3, rfl⟩ := arrayElem_eq ht
  simp [execOp, hρ _ _ hx, hρ _ _ hi, Instr.index, asIntOf, run_underlying h2, h0, h1, part, run_isAgg_scal hs, sizeOf, typeInfo, h3, hv]
end
/-- A block of m rows of c integers. -/
structure Grid (m c : Nat) (G : Nat → Nat → Int) (cs : Array Value) : Prop where
  size : cs.size = m * c
  get : ∀ i k, i < m → k < c → cs[i * c + k]? = some (.int .i64 (G i k))
theorem grid_ix {m c i k : Nat} (hi : i < m) (hk : k < c) : i * c + k < m * c := by
  have h : (i + 1) * c ≤ m * c := Nat.mul_le_mul_right c hi
  rw [Nat.succ_mul] at h; omega
theorem grid_ne {c i k x y : Nat} (hk : k < c) (hy : y < c) (h : i * c + k = x * c + y) : i = x ∧ k = y := by
  have hc : 0 < c := by omega
  have e1 : (c * i + k) / c = i := by rw [Nat.mul_add_div hc, Nat.div_eq_of_lt hk, Nat.add_zero]
  have e2 : (c * x + y) / c = x := by rw [Nat.mul_add_div hc, Nat.div_eq_of_lt hy, Nat.add_zero]
  have e3 : i = x := by rw [← e1, ← e2, Nat.mul_comm c i, Nat.mul_comm c x, h]
  subst e3; omega
def updG (G : Nat → Nat → Int) (i k : Nat) (v : Int) : Nat → Nat → Int := fun x y => if x = i ∧ y = k then v else G x y
theorem Grid.set {m c : Nat} {G : Nat → Nat → Int} {cs : Array Value} (h : Grid m c G cs) {i k off : Nat} (hi : i < m) (hk : k < c) (ho : off = i * c + k) (v : Int) : Grid m c (updG G i k v) (spl cs off [.int .i64 v]) := by
  subst ho
  rw [spl_one _ _ (by rw [h.size]; exact grid_ix hi hk)]
  refine ⟨by rw [Array.size_setIfInBounds, h.size], fun x y hx hy => ?_⟩
  unfold updG
  by_cases e : x = i ∧ y = k
  · rw [if_pos e, e.1, e.2, Array.getElem?_setIfInBounds_self_of_lt (by rw [h.size]; exact grid_ix hi hk)]
  · rw [if_neg e, Array.getElem?_setIfInBounds_ne (fun hne => e ⟨(grid_ne hk hy hne).1.symm, (grid_ne hk hy hne).2.symm⟩), h.get x y hx hy]
theorem Grid.congr {m c : Nat} {G G' : Nat → Nat → Int} {cs : Array Value} (h : Grid m c G cs) (e : ∀ i k, i < m → k < c → G i k = G' i k) : Grid m c G' cs := ⟨h.size, fun i k hi hk => by rw [h.get i k hi hk, e i k hi hk]⟩
/-- The cells of a grid. -/
def gridV (m c : Nat) (G : Nat → Nat → Int) : Array Value := ((List.range (m * c)).map fun j => Value.int .i64 (G (j / c) (j % c))).toArray
theorem Grid.eq {m c : Nat} {G : Nat → Nat → Int} {cs : Array Value} (h : Grid m c G cs) : cs = gridV m c G := by
  apply Array.ext_getElem?
  intro j
  by_cases hj : j < m * c
  · have hc : 0 < c := by rcases Nat.eq_zero_or_pos c with rfl | h <;> omega
    have e := h.get (j / c) (j % c) ((Nat.div_lt_iff_lt_mul hc).2 hj) (Nat.mod_lt _ hc)
    rw [Nat.mul_comm, Nat.div_add_mod] at e
    rw [e]
    simp [gridV, hj]
  · rw [Array.getElem?_eq_none (by rw [h.size]; omega), Array.getElem?_eq_none (by simp [gridV]; omega)]
theorem Grid.one {m c : Nat} {G : Nat → Nat → Int} {cs : Array Value} (h : Grid m c G cs) : cs.toList.all (·.oneCell') = true := by
  rw [h.eq, List.all_eq_true]
  intro v hv
  simp only [gridV, List.mem_map] at hv
  obtain ⟨j, _, rfl⟩ := hv
  rfl
end Go.Sy

namespace Go.Sy
open Go Go.Proofs Go.RowKit
abbrev Cls := List ((World → Prop) × List Nat)
/-- An operation leaves each class of worlds that it must not break. -/
def Pres : Cls → Nat → World → World → Prop
  | [], _, _, _ => True
  | p :: l, k, w, w' => (p.2.contains k = false → p.1 w → p.1 w') ∧ Pres l k w w'
theorem Pres.get {k : Nat} {w w' : World} : ∀ {l : Cls} {p : (World → Prop) × List Nat}, Pres l k w w' → p ∈ l → p.2.contains k = false → p.1 w → p.1 w'
  | q :: l, p, h, hp, hk => by
    rcases List.mem_cons.1 hp with rfl | hp
    · exact h.1 hk
    · exact h.2.get hp hk
theorem Pres.refl {k : Nat} {w : World} : ∀ {l : Cls}, Pres l k w w
  | [] => trivial
  | _ :: _ => ⟨fun _ h => h, Pres.refl⟩
/-- Worlds in which some blocks are what they are. -/
def AtE (u : World) (M : List Nat) (H : List (Nat × Obj)) (w : World) : Prop := Ext M u w ∧ ∀ p ∈ H, w.heap[p.1]? = some p.2
theorem AtE.at {u w : World} {M : List Nat} {H : List (Nat × Obj)} (h : AtE u M H w) {i b : Nat} {o : Obj} (hi : H[i]? = some (b, o)) : w.heap[b]? = some o := h.2 (b, o) (List.mem_of_getElem? hi)
theorem AtE.old {u w : World} {H : List (Nat × Obj)} (h : AtE u [] H w) {b : Nat} {o : Obj} (hb : u.heap[b]? = some o) : w.heap[b]? = some o := h.1.get hb
theorem AtE.oldM {u w : World} {M : List Nat} {H : List (Nat × Obj)} (h : AtE u M H w) {b : Nat} {o : Obj} (hb : u.heap[b]? = some o) (hm : b ∉ M) : w.heap[b]? = some o := h.1.getM hb hm
theorem AtE.of {u w : World} {M : List Nat} {H H' : List (Nat × Obj)} (hh : Hp u M H' w) (h : H ⊆ H') : AtE u M H w := ⟨hh.ext, fun p hp => hh.get p (h hp)⟩
inductive OC where
  | fin
  | p (k : Nat) (t : OC)
  | q (c k : Nat) (t : OC)
  | e1 (k : Nat) (t : OC)
  | e2 (k : Nat) (t : OC) (k2 : Nat) (t2 : OC)
  | e3 (k : Nat) (t : OC) (k2 : Nat) (t2 : OC) (k3 : Nat) (t3 : OC)
section
variable {P : Program} {r : Option Nat} {ops : Array Oper} {md : Region.Mode} {Cs : Cls} {Q : Act → World → Prop}
def LC (P : Program) (r : Option Nat) (md : Region.Mode) (ops : Array Oper) (Cs : Cls) (Q : Act → World → Prop) : Nat → Array Bool → Act → World → Prop
  | 0, listed, a, w => Region.ready md ops listed = [] ∧ Q a w
  | f + 1, listed, a, w => (Region.ready md ops listed = [] → Q a w) ∧
      ∀ i ∈ Region.ready md ops listed, wpOpIn (FR r) 0 P ops QF i (fun a' w' => Pres Cs i w w' ∧ LC P r md ops Cs Q f (listed.setIfInBounds i true) a' w') a w
theorem wpAny_of_LC {Q' : Exit → Act → World → Prop} (hQ : ∀ a w, Q a w → Q' .normal a w) :
    ∀ (f : Nat) (listed : Array Bool) (a : Act) (w : World), LC P r md ops Cs Q f listed a w → wpAnyIn (FR r) 0 P md ops Q' f listed a w
  | 0, _, _, _, h => ⟨h.1, hQ _ _ h.2⟩
  | f + 1, listed, a, w, h => ⟨fun h0 => hQ _ _ (h.1 h0), fun i hi => wpOp_qf (fun _ _ _ h => h.elim) (fun ⟨_, _, h⟩ => h.elim) (wpOpIn_mono (fun a' w' h' => wpAny_of_LC hQ f _ a' w' h'.2) (h.2 i hi))⟩
theorem LC_first {i : Nat} {oi : Oper} {v : Value} {C : World → Prop} (hnd : noDefer ops = true) (hi : ops[i]? = some oi) (hsel : ∀ (j : Nat) (o : Oper) cs b, ops[j]? = some o → o.op ≠ .select cs b)
    (hstep : ∀ listed j w w', Down md ops listed → listed.getD i true = false → j ∈ Region.ready md ops listed → Pres Cs j w w' → C w → C w') :
    ∀ (fuel : Nat) (listed : Array Bool) (a : Act) (w : World), C w → Down md ops listed →
      (∀ j oj, ops[j]? = some oj → j ≠ i → listed.getD j true = false → (∀ e ∈ oj.after, Region.binds md e = true → e.on ≠ i) → oi.apart ops oj = true) →
      i ∈ Region.ready md ops listed → YieldsC P ops C oi v a →
      LC P r md ops Cs Q fuel (listed.setIfInBounds i true) (a.put oi.dst v) w → LC P r md ops Cs Q (fuel + 1) listed a w := by
  intro fuel
  induction fuel with
  | zero =>
    intro listed a w hC _ _ hr hy H
    refine ⟨fun h => (by rw [h] at hr; cases hr), fun j hj => ?_⟩
    by_cases hji : j = i
    · subst hji; exact hy.wpOp (noDefer_get hnd hi) hi hC ⟨Pres.refl, H⟩
    · have := ready_mono hj hji
      rw [H.1] at this
      cases this
  | succ fuel ih =>
    intro listed a w hC hdown hfree hr hy H
    refine ⟨fun h => (by rw [h] at hr; cases hr), fun j hj => ?_⟩
    by_cases hji : j = i
    · subst hji; exact hy.wpOp (noDefer_get hnd hi) hi hC ⟨Pres.refl, H⟩
    · have h1 := H.2 j (ready_mono hj hji)
      obtain ⟨hjun, oj, hoj, hall⟩ := mem_ready.1 hj
      have hnot : ∀ e ∈ oj.after, Region.binds md e = true → e.on ≠ i := fun e he hb heq => by
        have h1 := hall e he hb
        have h0 := (mem_ready.1 hr).1
        rw [heq] at h1
        rcases Nat.lt_or_ge i listed.size with h' | h'
        · simp [h'] at h0 h1; rw [h0] at h1; cases h1
        · simp [Array.getElem?_eq_none h'] at h1
      have h2 := wpOp_putC (noDefer_get hnd hoj) hoj (hfree j oj hoj hji hjun hnot) (fun cs b => hsel i oi cs b hi) (fun cs b => hsel j oj cs b hoj) hy h1
      have hfree' : ∀ k ok, ops[k]? = some ok → k ≠ i → (listed.setIfInBounds j true).getD k true = false →
          (∀ e ∈ ok.after, Region.binds md e = true → e.on ≠ i) → oi.apart ops ok = true := fun k ok hk hki hun hno => by
        refine hfree k ok hk hki ?_ hno
        by_cases hjk : j = k
        · subst hjk; exact hjun
        · rw [getD_set_ne true hjk] at hun; exact hun
      refine wpOpIn_mono (fun a' w' h3 => ⟨h3.2.1, ih (listed.setIfInBounds j true) a' w' (hstep listed j w w' hdown (mem_ready.1 hr).1 hj h3.2.1 hC) (hdown.set hj) hfree' (ready_mono hr (Ne.symm hji)) h3.1 ?_⟩) h2
      rw [Array.setIfInBounds_comm _ _ hji]
      exact h3.2.2
def EffC (P : Program) (r : Option Nat) (ops : Array Oper) (Cs : Cls) (k : Nat) (K : Act → World → Prop) (a : Act) (w : World) : Prop :=
  wpOpIn (FR r) 0 P ops QF k (fun a' w' => Pres Cs k w w' ∧ K a' w') a w
def MixC (P : Program) (r : Option Nat) (ops : Array Oper) (Cs : Cls) (Q : Act → World → Prop) : OC → Act → World → Prop
  | .fin, a, w => Q a w
  | .p k t, a, w => ∃ o, ops[k]? = some o ∧ ∃ v, YieldsC P ops (fun _ => True) o v a ∧ MixC P r ops Cs Q t (a.put o.dst v) w
  | .q c k t, a, w => ∃ o p, ops[k]? = some o ∧ Cs[c]? = some p ∧ p.1 w ∧ ∃ v, YieldsC P ops p.1 o v a ∧ MixC P r ops Cs Q t (a.put o.dst v) w
  | .e1 k t, a, w => EffC P r ops Cs k (MixC P r ops Cs Q t) a w
  | .e2 k t k2 t2, a, w => EffC P r ops Cs k (MixC P r ops Cs Q t) a w ∧ EffC P r ops Cs k2 (MixC P r ops Cs Q t2) a w
  | .e3 k t k2 t2 k3 t3, a, w => EffC P r ops Cs k (MixC P r ops Cs Q t) a w ∧ EffC P r ops Cs k2 (MixC P r ops Cs Q t2) a w ∧ EffC P r ops Cs k3 (MixC P r ops Cs Q t3) a w
def treeC (md : Region.Mode) (ops : Array Oper) (lates : List (List Nat)) : OC → Nat → Array Bool → Bool
  | .fin, f, listed => decide (f = 0) && (Region.ready md ops listed).isEmpty
  | .p k t, f, listed => decide (0 < f) && (Region.ready md ops listed).contains k && Region.free md ops listed k && treeC md ops lates t (f - 1) (listed.setIfInBounds k true)
  | .q c k t, f, listed => decide (0 < f) && (Region.ready md ops listed).contains k && Region.free md ops listed k && ((lates.getD c []).all fun j => reach md ops 40 k j) && treeC md ops lates t (f - 1) (listed.setIfInBounds k true)
  | .e1 k t, f, listed => decide (0 < f) && decide (Region.ready md ops listed = [k]) && treeC md ops lates t (f - 1) (listed.setIfInBounds k true)
  | .e2 k t k2 t2, f, listed => decide (0 < f) && decide (Region.ready md ops listed = [k, k2]) && treeC md ops lates t (f - 1) (listed.setIfInBounds k true) && treeC md ops lates t2 (f - 1) (listed.setIfInBounds k2 true)
  | .e3 k t k2 t2 k3 t3, f, listed => decide (0 < f) && decide (Region.ready md ops listed = [k, k2, k3]) && treeC md ops lates t (f - 1) (listed.setIfInBounds k true) && treeC md ops lates t2 (f - 1) (listed.setIfInBounds k2 true) && treeC md ops lates t3 (f - 1) (listed.setIfInBounds k3 true)
theorem LC_tree {lates : List (List Nat)} (hlt : Cs.map Prod.snd = lates) (hnd : noDefer ops = true) (hs : Region.noSelect ops = true) :
    ∀ (t : OC) (f : Nat) (listed : Array Bool) (a : Act) (w : World), Down md ops listed → treeC md ops lates t f listed = true → MixC P r ops Cs Q t a w → LC P r md ops Cs Q f listed a w
  | .fin, f, listed, a, w, _, hB, h => by
    simp only [treeC, Bool.and_eq_true, decide_eq_true_eq] at hB
    obtain ⟨rfl, hB⟩ := hB
    exact ⟨by simpa using hB, h⟩
  | .p k t, f, listed, a, w, hdown, hB, h => by
    simp only [treeC, Bool.and_eq_true, decide_eq_true_eq] at hB
    obtain ⟨⟨⟨h0, hr⟩, hf⟩, hB'⟩ := hB
    obtain ⟨g, rfl⟩ : ∃ g, f = g + 1 := ⟨f - 1, by omega⟩
    obtain ⟨o, ho, v, hy, h⟩ := h
    have hr' : k ∈ Region.ready md ops listed := by simpa using hr
    exact LC_first (C := fun _ => True) hnd ho (Region.noSelect_spec hs) (fun _ _ _ _ _ _ _ _ _ => trivial) g listed a w trivial hdown (Region.free_spec ho hf) hr' hy (LC_tree hlt hnd hs t _ _ _ _ (hdown.set hr') hB' h)
  | .q c k t, f, listed, a, w, hdown, hB, h => by
    simp only [treeC, Bool.and_eq_true, decide_eq_true_eq] at hB
    obtain ⟨⟨⟨⟨h0, hr⟩, hf⟩, hl⟩, hB'⟩ := hB
    obtain ⟨g, rfl⟩ : ∃ g, f = g + 1 := ⟨f - 1, by omega⟩
    obtain ⟨o, p, ho, hp, hC, v, hy, h⟩ := h
    have hr' : k ∈ Region.ready md ops listed := by simpa using hr
    have hpl : lates.getD c [] = p.2 := by
      rw [← hlt, List.getD_eq_getElem?_getD, List.getElem?_map, hp]; rfl
    rw [hpl] at hl
    refine LC_first (C := p.1) hnd ho (Region.noSelect_spec hs) (fun listed j w w' hd hu hj hP hC => ?_) g listed a w hC hdown (Region.free_spec ho hf) hr' hy (LC_tree hlt hnd hs t _ _ _ _ (hdown.set hr') hB' h)
    refine hP.get (List.mem_of_getElem? hp) ?_ hC
    cases hlj : p.2.contains j
    · rfl
    · exact (reach_ready hd hu (List.all_eq_true.1 hl j (by simpa using hlj)) hj).elim
  | .e1 k t, f, listed, a, w, hdown, hB, h => by
    simp only [treeC, Bool.and_eq_true, decide_eq_true_eq] at hB
    obtain ⟨⟨h0, hr⟩, hB'⟩ := hB
    obtain ⟨g, rfl⟩ : ∃ g, f = g + 1 := ⟨f - 1, by omega⟩
    simp only [MixC, EffC] at h
    refine ⟨fun h0 => (by rw [hr] at h0; cases h0), fun i hi => ?_⟩
    have hi' := hi
    rw [hr] at hi
    simp only [List.mem_cons, List.not_mem_nil, or_false] at hi
    subst hi
    exact wpOpIn_mono (fun a' w' h' => ⟨h'.1, LC_tree hlt hnd hs t _ _ _ _ (hdown.set hi') hB' h'.2⟩) h
  | .e2 k t k2 t2, f, listed, a, w, hdown, hB, h => by
    simp only [treeC, Bool.and_eq_true, decide_eq_true_eq] at hB
    obtain ⟨⟨⟨h0, hr⟩, hB'⟩, hB2⟩ := hB
    obtain ⟨g, rfl⟩ : ∃ g, f = g + 1 := ⟨f - 1, by omega⟩
    simp only [MixC, EffC] at h
    refine ⟨fun h0 => (by rw [hr] at h0; cases h0), fun i hi => ?_⟩
    have hi' := hi
    rw [hr] at hi
    simp only [List.mem_cons, List.not_mem_nil, or_false] at hi
    rcases hi with rfl | rfl
    · exact wpOpIn_mono (fun a' w' h' => ⟨h'.1, LC_tree hlt hnd hs t _ _ _ _ (hdown.set hi') hB' h'.2⟩) h.1
    · exact wpOpIn_mono (fun a' w' h' => ⟨h'.1, LC_tree hlt hnd hs t2 _ _ _ _ (hdown.set hi') hB2 h'.2⟩) h.2
  | .e3 k t k2 t2 k3 t3, f, listed, a, w, hdown, hB, h => by
    simp only [treeC, Bool.and_eq_true, decide_eq_true_eq] at hB
    obtain ⟨⟨⟨⟨h0, hr⟩, hB'⟩, hB2⟩, hB3⟩ := hB
    obtain ⟨g, rfl⟩ : ∃ g, f = g + 1 := ⟨f - 1, by omega⟩
    simp only [MixC, EffC] at h
    refine ⟨fun h0 => (by rw [hr] at h0; cases h0), fun i hi => ?_⟩
    have hi' := hi
    rw [hr] at hi
    simp only [List.mem_cons, List.not_mem_nil, or_false] at hi
    rcases hi with rfl | rfl | rfl
    · exact wpOpIn_mono (fun a' w' h' => ⟨h'.1, LC_tree hlt hnd hs t _ _ _ _ (hdown.set hi') hB' h'.2⟩) h.1
    · exact wpOpIn_mono (fun a' w' h' => ⟨h'.1, LC_tree hlt hnd hs t2 _ _ _ _ (hdown.set hi') hB2 h'.2⟩) h.2.1
    · exact wpOpIn_mono (fun a' w' h' => ⟨h'.1, LC_tree hlt hnd hs t3 _ _ _ _ (hdown.set hi') hB3 h'.2⟩) h.2.2
end
theorem sy_treeC {P : Program} {r : Option Nat} {id : Nat} {Q : Exit → Act → World → Prop} {a : Act} {w w0 : World} {M : List Nat} {H : List (Nat × Obj)} {l : List Oper} (t : OC) (lates : List (List Nat)) (Cs : Cls) (hm : P.follows .mixedOrders = true)
    (hB : (noDefer l.toArray && Region.noSelect l.toArray && treeC .any l.toArray lates t l.toArray.size (Array.replicate l.toArray.size false)) = true) (hlt : Cs.map Prod.snd = lates)
    (hh : Hp w0 M H w) (h : ∀ w, Hp w0 M H w → MixC P r l.toArray Cs (fun a w => Q .normal a w) t a w) : WP P r (.region id l.toArray true) Q a w := by
  simp only [Bool.and_eq_true] at hB
  obtain ⟨⟨h1, h2⟩, h3⟩ := hB
  exact wpIn_region_any hm (wpAny_of_LC (Cs := Cs) (Q := fun a w => Q .normal a w) (fun _ _ h => h) _ _ _ _ (LC_tree hlt h1 h2 t _ _ a _ (Down.none _) h3 (h _ (hh.drawn (w.drawn + 1)))))
section
variable {P : Program} {r : Option Nat} {ops : Array Oper} {Cs : Cls} {Q : Act → World → Prop} {k n c : Nat} {t : OC} {ds : List Deferred} {L : List (Nat × Value)} {a : Act} {w : World} {o : Oper} {d : Nat} {v : Value} {p : (World → Prop) × List Nat}
theorem mc_p (ho : ops[k]? = some o) (hf : Fr n ds L a) (y : Yv P (fun _ => True) L o v) (hg : GOn ops L o) (hd : o.dst = some d) (hn : Nat.blt d n = true)
    (K : ∀ a, Fr n ds ((d, v) :: L) a → MixC P r ops Cs Q t a w) : MixC P r ops Cs Q (.p k t) a w :=
  ⟨o, ho, v, .inl ⟨hg.wanted hf, fun w hw => y _ hf.agree w hw⟩, by rw [hd]; exact K _ (hf.put (blt_lt hn) v)⟩
theorem mc_q (ho : ops[k]? = some o) (hc : Cs[c]? = some p) (hC : p.1 w) (hf : Fr n ds L a) (y : Yv P p.1 L o v) (hg : GOn ops L o) (hd : o.dst = some d) (hn : Nat.blt d n = true)
    (K : ∀ a, Fr n ds ((d, v) :: L) a → MixC P r ops Cs Q t a w) : MixC P r ops Cs Q (.q c k t) a w :=
  ⟨o, p, ho, hc, hC, v, .inl ⟨hg.wanted hf, fun w hw => y _ hf.agree w hw⟩, by rw [hd]; exact K _ (hf.put (blt_lt hn) v)⟩
theorem mc_e {K : Act → World → Prop} (ho : ops[k]? = some o) (h : ∀ Q', OpsW P r ops (Exit.then (fun a' w' => Pres Cs k w w' ∧ K a' w') Q') [o] a w) : EffC P r ops Cs k K a w := by
  have h := h QF
  simp only [OpsW] at h
  unfold EffC wpOpIn
  simp only [ho]
  split
  · rename_i hw
    rw [if_pos hw] at h
    exact wpIn_qf (fun _ _ _ h => h) (fun ⟨_, _, h⟩ => ⟨a, w, h⟩) (Oper.wpIn_mono (fun _ _ h => h) h)
  · rename_i hw
    rw [if_neg hw] at h
    exact ⟨fun _ _ => trivial, h⟩
theorem mc_end (h : Q a w) : MixC P r ops Cs Q .fin a w := h
end
end Go.Sy

namespace Go.Sy
open Go Go.Proofs
/-- How many cells a type of integers alone has. -/
def flatN (P : Program) : Nat → TypeId → Option Nat
  | 0, _ => none
  | d + 1, t => match P.underlying t with
    | some (.int _) => some 1
    | some (.struct fs) => match fs.toList.foldl (fun acc f => acc.bind fun off => if f.name ≠ "_" ∧ f.offset = off then (flatN P d f.type).map (off + ·) else none) (some 0) with
      | some n => if P.stoodInHeld t = false ∧ aggB P t = some n then some n else none
      | none => none
    | some (.array len e) => match flatN P d e with
      | some k => if P.cellsOf e = k ∧ (P.info? e).isSome ∧ aggB P t = some (len * k) then some (len * k) else none
      | none => none
    | _ => none
def flatF (P : Program) (d : Nat) : List Field → Nat → Option Nat
  | [], off => some off
  | f :: fs, off => if f.name ≠ "_" ∧ f.offset = off then match flatN P d f.type with
      | some k => flatF P d fs (off + k)
      | none => none
    else none
theorem flat_none {P : Program} {d : Nat} : ∀ (fs : List Field), fs.foldl (fun acc f => acc.bind fun off => if f.name ≠ "_" ∧ f.offset = off then (flatN P d f.type).map (off + ·) else none) none = (none : Option Nat)
  | [] => rfl
  | f :: fs => by rw [List.foldl_cons]; exact flat_none fs
theorem flat_fold {P : Program} {d : Nat} : ∀ (fs : List Field) (off : Nat), fs.foldl (fun acc f => acc.bind fun off => if f.name ≠ "_" ∧ f.offset = off then (flatN P d f.type).map (off + ·) else none) (some off) = flatF P d fs off
  | [], off => rfl
  | f :: fs, off => by
    rw [List.foldl_cons, flatF]
    simp only [Option.bind_some]
    split
    · cases h : flatN P d f.type with
      | none => exact flat_none fs
      | some k => exact flat_fold fs (off + k)
    · exact flat_none fs
/-- Integers from a cell on. -/
def IntsIn (X : Array Value) (o : Nat) (p : List Int) : Prop := ∀ j a, p[j]? = some a → X[o + j]? = some (.int .i64 a)
theorem IntsIn.take {X : Array Value} {o n : Nat} {p : List Int} (h : IntsIn X o p) : IntsIn X o (p.take n) := fun j a hj => by
  rw [List.getElem?_take] at hj
  split at hj
  · exact h j a hj
  · cases hj
theorem IntsIn.drop {X : Array Value} {o n : Nat} {p : List Int} (h : IntsIn X o p) : IntsIn X (o + n) (p.drop n) := fun j a hj => by
  rw [List.getElem?_drop] at hj
  rw [Nat.add_assoc]; exact h _ a hj
theorem IntsIn.ext {X : Array Value} {o n : Nat} {p : List Int} (h : IntsIn X o p) (hl : p.length = n) : IntsIn (X.extract o (o + n)) 0 p := fun j a hj => by
  have h1 := h j a hj
  have h2 := (List.getElem?_eq_some_iff.1 hj).1
  have h3 := (Array.getElem?_eq_some_iff.1 h1).1
  rw [Nat.zero_add, Array.getElem?_extract, if_pos (by omega), h1]
theorem dec_split (k : Nat) (p q : List Int) : decide (p = q) = (decide (p.take k = q.take k) && decide (p.drop k = q.drop k)) := by
  rw [Bool.eq_iff_iff]
  simp only [decide_eq_true_eq, Bool.and_eq_true]
  constructor
  · rintro rfl; exact ⟨rfl, rfl⟩
  · rintro ⟨h1, h2⟩; rw [← List.take_append_drop k p, h1, h2, List.take_append_drop]
section
variable {P : Program}
def EqAt (P : Program) (d : Nat) (t : TypeId) (n : Nat) : Prop := ∀ (X Y : Array Value) (o o' : Nat) (p q : List Int) (w : World), p.length = n → q.length = n → IntsIn X o p → IntsIn Y o' q →
  ∃ u v, (part t X o).run P w = .ok u w ∧ (part t Y o').run P w = .ok v w ∧ (Op.equalIn d t u v).run P w = .ok (decide (p = q)) w
theorem run_flatF {d : Nat} (ih : ∀ t n, flatN P d t = some n → EqAt P d t n) : ∀ (fs : List Field) (off m : Nat), flatF P d fs off = some m → ∀ (U V : Array Value) (p q : List Int) (w : World), off + p.length = m → off + q.length = m → IntsIn U off p → IntsIn V off q →
    (Op.eqFields d U V fs).run P w = .ok (decide (p = q)) w
  | [], off, m, h, U, V, p, q, w, hp, hq, _, _ => by
    simp only [flatF, Option.some.injEq] at h
    have h1 : p = [] := List.eq_nil_of_length_eq_zero (by omega)
    have h2 : q = [] := List.eq_nil_of_length_eq_zero (by omega)
    subst h1; subst h2
    simp [Op.eqFields]
  | f :: fs, off, m, h, U, V, p, q, w, hp, hq, hU, hV => by
    rw [flatF] at h
    split at h
    · rename_i hf
      split at h
      · rename_i k hk
        have hle : off + k ≤ m := by
          have key : ∀ (fs : List Field) (a b : Nat), flatF P d fs a = some b → a ≤ b := by
            intro fs
            induction fs with
            | nil => intro a b h; simp only [flatF, Option.some.injEq] at h; omega
            | cons g gs ihg =>
              intro a b h
              rw [flatF] at h
              split at h
              · split at h
                · have := ihg _ _ h; omega
                · cases h
              · cases h
          exact key fs _ _ h
        obtain ⟨u, v, h1, h2, h3⟩ := ih f.type k hk U V off off (p.take k) (q.take k) w (by rw [List.length_take]; omega) (by rw [List.length_take]; omega) hU.take hV.take
        have h4 := run_flatF ih fs (off + k) m h U V (p.drop k) (q.drop k) w (by rw [List.length_drop]; omega) (by rw [List.length_drop]; omega) hU.drop hV.drop
        rw [dec_split k p q]
        simp only [Op.eqFields, hf.1, ne_eq, not_false_eq_true, if_true, Sem.run_bind, hf.2, h1, h2, h3, Result.andThen_ok]
        cases decide (p.take k = q.take k)
        · simp
        · simp [h4]
      · cases h
    · cases h
theorem run_flatI {d k : Nat} {e : TypeId} (ih : EqAt P d e k) : ∀ (n s : Nat) (U V : Array Value) (p q : List Int) (w : World), p.length = n * k → q.length = n * k → IntsIn U (s * k) p → IntsIn V (s * k) q →
    (Op.eqItems d e k U V (List.range' s n)).run P w = .ok (decide (p = q)) w
  | 0, s, U, V, p, q, w, hp, hq, _, _ => by
    have h1 : p = [] := List.eq_nil_of_length_eq_zero (by omega)
    have h2 : q = [] := List.eq_nil_of_length_eq_zero (by omega)
    subst h1; subst h2
    simp [Op.eqItems]
  | n + 1, s, U, V, p, q, w, hp, hq, hU, hV => by
    rw [Nat.succ_mul] at hp hq
    obtain ⟨u, v, h1, h2, h3⟩ := ih U V (s * k) (s * k) (p.take k) (q.take k) w (by rw [List.length_take]; omega) (by rw [List.length_take]; omega) hU.take hV.take
    have h4 := run_flatI ih n (s + 1) U V (p.drop k) (q.drop k) w (by rw [List.length_drop]; omega) (by rw [List.length_drop]; omega) (by rw [Nat.succ_mul]; exact hU.drop) (by rw [Nat.succ_mul]; exact hV.drop)
    rw [dec_split k p q, List.range'_succ]
    simp only [Op.eqItems, Sem.run_bind, h1, h2, h3, Result.andThen_ok]
    cases decide (p.take k = q.take k)
    · simp
    · simp [h4]
theorem flat_eq : ∀ (d : Nat) (t : TypeId) (n : Nat), flatN P d t = some n → EqAt P d t n
  | 0, t, n, h => by simp [flatN] at h
  | d + 1, t, n, h => by
    intro X Y o o' p q w hp hq hX hY
    rw [flatN] at h
    split at h
    · rename_i k hk
      cases h
      have hs : scalB P t = true := by unfold scalB; rw [hk]
      obtain ⟨a, rfl⟩ : ∃ a, p = [a] := by
        match p, hp with
        | [a], _ => exact ⟨a, rfl⟩
      obtain ⟨b, rfl⟩ : ∃ b, q = [b] := by
        match q, hq with
        | [b], _ => exact ⟨b, rfl⟩
      have h1 := hX 0 a rfl
      have h2 := hY 0 b rfl
      rw [Nat.add_zero] at h1 h2
      refine ⟨.int .i64 a, .int .i64 b, by simp [part, run_isAgg_scal hs, h1], by simp [part, run_isAgg_scal hs, h2], ?_⟩
      rw [run_equalIn_int w d t .i64 k a b hk]
      congr 1
      by_cases e : a = b <;> simp [e]
    · rename_i fs hfs
      rw [flat_fold] at h
      split at h
      · rename_i m hm
        split at h
        · rename_i hc
          cases h
          obtain ⟨hs, hag⟩ := hc
          obtain ⟨h3, h4⟩ := run_isAgg_agg (w := w) hag
          have hfo : P.fieldsOf t = fs := by unfold Program.fieldsOf; rw [hfs]
          refine ⟨.agg (X.extract o (o + n)), .agg (Y.extract o' (o' + n)), by simp [part, h3, h4], by simp [part, h3, h4], ?_⟩
          rw [run_equalIn_struct w d t _ _ (by rw [hfo]; exact hfs) hs, hfo]
          exact run_flatF (fun t n => flat_eq d t n) fs.toList 0 n hm _ _ p q w (by omega) (by omega) (hX.ext hp) (hY.ext hq)
        · cases h
      · cases h
    · rename_i len e hu
      split at h
      · rename_i k hk
        split at h
        · rename_i hc
          cases h
          obtain ⟨hck, hinf, hag⟩ := hc
          obtain ⟨i, hi⟩ := Option.isSome_iff_exists.1 hinf
          obtain ⟨h3, h4⟩ := run_isAgg_agg (w := w) hag
          refine ⟨.agg (X.extract o (o + len * k)), .agg (Y.extract o' (o' + len * k)), by simp [part, h3, h4], by simp [part, h3, h4], ?_⟩
          rw [run_equalIn_array w d _ _ hu hi, hck, List.range_eq_range']
          exact run_flatI (flat_eq d e k hk) len 0 _ _ p q w hp hq (by rw [Nat.zero_mul]; exact hX.ext hp) (by rw [Nat.zero_mul]; exact hY.ext hq)
        · cases h
      · cases h
    · cases h
/-- A struct or an array of integers alone. -/
def flatB (P : Program) (t : TypeId) : Option Nat := match flatN P 9 t with
  | some n => if aggB P t = some n ∧ P.eqGuardType P.depth t = false then some n else none
  | none => none
theorem intsIn_map (p : List Int) : IntsIn (p.map (Value.int .i64)).toArray 0 p := fun j a hj => by
  rw [Nat.zero_add]; simp [hj]
theorem depth_mono {d : Nat} : ∀ {t : TypeId} {n : Nat}, flatN P d t = some n → flatN P (d + 1) t = some n := by
  induction d with
  | zero => intro t n h; simp [flatN] at h
  | succ d ih =>
    intro t n h
    have hF : ∀ (fs : List Field) (a b : Nat), flatF P d fs a = some b → flatF P (d + 1) fs a = some b := by
      intro fs
      induction fs with
      | nil => intro a b h; exact h
      | cons f fs ihf =>
        intro a b h
        rw [flatF] at h ⊢
        split at h
        · rename_i hf
          rw [if_pos hf]
          split at h
          · rename_i k hk; rw [ih hk]; exact ihf _ _ h
          · cases h
        · cases h
    rw [flatN] at h ⊢
    split at h
    · exact h
    · rename_i fs hfs
      rw [flat_fold] at h ⊢
      split at h
      · rename_i m hm; rw [hF _ _ _ hm]; exact h
      · cases h
    · rename_i len e hu
      split at h
      · rename_i k hk; rw [ih hk]; exact h
      · cases h
    · cases h
theorem flat_top {t : TypeId} {n : Nat} (h : flatB P t = some n) : ∀ (p q : List Int) (w : World), p.length = n → q.length = n → (Op.equalIn 10000 t (.agg (p.map (Value.int .i64)).toArray) (.agg (q.map (Value.int .i64)).toArray)).run P w = .ok (decide (p = q)) w := by
  intro p q w hp hq
  unfold flatB at h
  split at h
  · rename_i m hm
    split at h
    · rename_i hc
      cases h
      have h2 : ∀ k, flatN P (9 + k) t = some n := by
        intro k
        induction k with
        | zero => exact hm
        | succ k ih => exact depth_mono ih
      obtain ⟨u, v, h3, h4, h5⟩ := flat_eq 10000 t n (h2 9991) _ _ 0 0 p q w hp hq (intsIn_map p) (intsIn_map q)
      obtain ⟨h6, h7⟩ := run_isAgg_agg (w := w) hc.1
      have e : ∀ (p : List Int), p.length = n → (part t (p.map (Value.int .i64)).toArray 0).run P w = .ok (.agg (p.map (Value.int .i64)).toArray) w := fun p hp => by
        have e2 : (p.map (Value.int .i64)).take n = p.map (Value.int .i64) := List.take_of_length_le (by simp [hp])
        simp [part, h6, h7, e2]
      rw [e p hp] at h3
      rw [e q hq] at h4
      cases h3; cases h4
      exact h5
    · cases h
  · cases h
variable {C : World → Prop} {L : List (Nat × Value)} {dd : Option Tmp} {ty : TypeId} {pos : String} {af : Array Edge} {gd : Option (Nat × Bool)}
theorem flat_guard {t : TypeId} {n : Nat} (h : flatB P t = some n) : P.eqGuardType P.depth t = false := by
  unfold flatB at h
  split at h
  · split at h
    · rename_i hc; exact hc.2
    · cases h
  · cases h
theorem yv_eqF {t t' : TypeId} {x y : Operand} {n : Nat} (p q : List Int) (ht : flatB P t = some n) (hx : ev L x = some (.agg (p.map (Value.int .i64)).toArray)) (hy : ev L y = some (.agg (q.map (Value.int .i64)).toArray)) (hp : p.length = n := by rfl) (hq : q.length = n := by rfl) :
    Yv P C L ⟨dd, .binOp .eql t x y t', ty, pos, af, gd⟩ (.bool (decide (p = q))) := fun ρ hρ w _ => by
  have e := run_eqGuard_agg (P := P) w .eql t x y (p.map (Value.int .i64)).toArray (q.map (Value.int .i64)).toArray (flat_guard ht)
  have e2 := run_eql_struct (P := P) w t (p.map (Value.int .i64)).toArray (q.map (Value.int .i64)).toArray
  rw [flat_top ht p q w hp hq] at e2
  simp only [execOp, hρ _ _ hx, hρ _ _ hy, Sem.run_bind, e, e2, Result.andThen_ok]
  rfl
theorem yv_neF {t t' : TypeId} {x y : Operand} {n : Nat} (p q : List Int) (ht : flatB P t = some n) (hx : ev L x = some (.agg (p.map (Value.int .i64)).toArray)) (hy : ev L y = some (.agg (q.map (Value.int .i64)).toArray)) (hp : p.length = n := by rfl) (hq : q.length = n := by rfl) :
    Yv P C L ⟨dd, .binOp .neq t x y t', ty, pos, af, gd⟩ (.bool (!decide (p = q))) := fun ρ hρ w _ => by
  have e := run_eqGuard_agg (P := P) w .neq t x y (p.map (Value.int .i64)).toArray (q.map (Value.int .i64)).toArray (flat_guard ht)
  have e2 := run_neq_struct (P := P) w t (p.map (Value.int .i64)).toArray (q.map (Value.int .i64)).toArray
  rw [flat_top ht p q w hp hq] at e2
  simp only [execOp, hρ _ _ hx, hρ _ _ hy, Sem.run_bind, e, e2, Result.andThen_ok]
  rfl
end
end Go.Sy

namespace Go.Sy
open Go Go.Proofs Go.Deep Go.ChangeShapes
/-- How many cells a type of integers of one kind alone has. -/
def flK (P : Program) (k : IntKind) : Nat → TypeId → Option Nat
  | 0, _ => none
  | d + 1, t => match P.underlying t with
    | some (.int k') => if k' = k ∧ P.cellsOf t = 1 then some 1 else none
    | some (.struct fs) => match fs.toList.foldl (fun acc f => acc.bind fun off => if f.offset = off then (flK P k d f.type).map (off + ·) else none) (some 0) with
      | some n => if P.cellsOf t = n then some n else none
      | none => none
    | _ => none
def flKF (P : Program) (k : IntKind) (d : Nat) : List Field → Nat → Option Nat
  | [], off => some off
  | f :: fs, off => if f.offset = off then match flK P k d f.type with
      | some m => flKF P k d fs (off + m)
      | none => none
    else none
section
variable {P : Program} {k : IntKind} {d : Nat}
theorem flK_none : ∀ (fs : List Field), fs.foldl (fun acc f => acc.bind fun off => if f.offset = off then (flK P k d f.type).map (off + ·) else none) none = (none : Option Nat)
  | [] => rfl
  | f :: fs => by rw [List.foldl_cons]; exact flK_none fs
theorem flK_fold : ∀ (fs : List Field) (off : Nat), fs.foldl (fun acc f => acc.bind fun off => if f.offset = off then (flK P k d f.type).map (off + ·) else none) (some off) = flKF P k d fs off
  | [], off => rfl
  | f :: fs, off => by
    rw [List.foldl_cons, flKF]
    simp only [Option.bind_some]
    split
    · cases h : flK P k d f.type with
      | none => exact flK_none fs
      | some m => exact flK_fold fs (off + m)
    · exact flK_none fs
theorem flK_cells : ∀ {d : Nat} {t : TypeId} {n : Nat}, flK P k d t = some n → P.cellsOf t = n
  | 0, t, n, h => by simp [flK] at h
  | d + 1, t, n, h => by
    rw [flK] at h
    split at h
    · split at h
      · rename_i hc; cases h; exact hc.2
      · cases h
    · split at h
      · split at h
        · rename_i hc; cases h; exact hc
        · cases h
      · cases h
    · cases h
def wfI (k : IntKind) (a : Int) : Prop := (Lit.int k a).wf = true
variable {H : Type} {enc : TypeId × Value → H} {W : World} {base : Nat} {spare : Nat → Bool} {held : Bool}
theorem trod_flF {d : Nat} (ih : ∀ {t : TypeId} {n fuel : Nat} {cs : List Value} {x : DataW H × List MemPlace}, flK P k d t = some n → DataW.trod enc P W base spare held fuel t cs = some x → ∃ p : List Int, p.length = n ∧ cs = p.map (Value.int k) ∧ ∀ a ∈ p, wfI k a) {cs : List Value} {m : Nat} :
    ∀ (fs : List Field) (off e : Nat), flKF P k d fs off = some e → (∀ f ∈ fs, ∃ y, DataW.trod enc P W base spare held m f.type ((cs.drop f.offset).take (P.cellsOf f.type)) = some y) →
    ∃ p : List Int, off + p.length = e ∧ (cs.drop off).take p.length = p.map (Value.int k) ∧ ∀ a ∈ p, wfI k a
  | [], off, e, h, _ => by
    simp only [flKF, Option.some.injEq] at h
    exact ⟨[], by simp [h], by simp, by simp⟩
  | f :: fs, off, e, h, hf => by
    rw [flKF] at h
    split at h
    · rename_i ho
      split at h
      · rename_i n hn
        obtain ⟨y, hy⟩ := hf f (.head _)
        obtain ⟨p, h1, h2, h3⟩ := ih hn hy
        rw [ho, flK_cells hn] at h2
        obtain ⟨q, h4, h5, h6⟩ := trod_flF ih fs (off + n) e h (fun g hg => hf g (.tail _ hg))
        refine ⟨p ++ q, by rw [List.length_append]; omega, ?_, fun a ha => ?_⟩
        · rw [List.length_append, h1, List.map_append, ← h2, ← h5, ← List.drop_drop, List.take_add]
        · rcases List.mem_append.1 ha with ha | ha
          · exact h3 a ha
          · exact h6 a ha
      · cases h
    · cases h
theorem trod_fl : ∀ {d : Nat} {t : TypeId} {n fuel : Nat} {cs : List Value} {x : DataW H × List MemPlace}, flK P k d t = some n → DataW.trod enc P W base spare held fuel t cs = some x → ∃ p : List Int, p.length = n ∧ cs = p.map (Value.int k) ∧ ∀ a ∈ p, wfI k a
  | 0, t, n, fuel, cs, x, h, _ => by simp [flK] at h
  | d + 1, t, n, fuel, cs, x, h, hx => by
    rw [flK] at h
    split at h
    · rename_i k' hk
      split at h
      · rename_i hc
        cases h
        obtain ⟨rfl, _⟩ := hc
        obtain ⟨a, rfl, _, hw⟩ := DataW.trod_int hk hx
        exact ⟨[a], rfl, rfl, fun b hb => by rw [List.mem_singleton] at hb; subst hb; exact hw⟩
      · cases h
    · rename_i fs hfs
      rw [flK_fold] at h
      split at h
      · rename_i m hm
        split at h
        · rename_i hc
          cases h
          obtain ⟨xs, n', _, _, hl, hxl, hf⟩ := DataW.trod_struct hfs hx
          obtain ⟨p, h1, h2, h3⟩ := trod_flF (cs := cs) (m := n') (fun h1 h2 => trod_fl h1 h2) fs.toList 0 n hm fun f hf' => by
            obtain ⟨i, hi, e⟩ := List.getElem_of_mem hf'
            have e2 : fs[i]? = some f := by rw [← Array.getElem?_toList, List.getElem?_eq_getElem hi, e]
            have hil : i < xs.length := by rw [hxl]; exact (Array.getElem?_eq_some_iff.1 e2).1
            exact ⟨xs[i], by rw [hf i f e2, List.getElem?_eq_getElem hil]⟩
          rw [Nat.zero_add] at h1
          refine ⟨p, h1, ?_, h3⟩
          rw [h1, List.drop_zero, List.take_of_length_le (by rw [hl, hc]; exact Nat.le_refl _)] at h2
          exact h2
        · cases h
      · cases h
    · cases h
/-- Rows of integers lie in memory, one after the other. -/
def FlatAt (W : World) (k : IntKind) (sa : Option Addr) (n : Nat) (l : List (List Int)) : Prop :=
  ∀ i p, l[i]? = some p → ∃ blk off c T fr, sa = some ⟨blk, off, none⟩ ∧ W.heap[blk]? = some (.cells c T fr) ∧ cellsAt c (off + i * n) n = some (p.map (Value.int k))
theorem FlatAt.ext {w w' : World} {sa : Option Addr} {n : Nat} {l : List (List Int)} (h : FlatAt w k sa n l) (e : Ext [] w w') : FlatAt w' k sa n l := fun i p hi =>
  let ⟨blk, off, c, T, fr, h1, h2, h3⟩ := h i p hi
  ⟨blk, off, c, T, fr, h1, e.get h2, h3⟩
theorem cellsAt_of {c : Array Value} : ∀ (vs : List Value) (off : Nat), (∀ j v, vs[j]? = some v → c[off + j]? = some v) → cellsAt c off vs.length = some vs
  | [], _, _ => rfl
  | v :: vs, off, h => by
    have h0 := h 0 v rfl
    have ih := cellsAt_of vs (off + 1) fun j u hj => by rw [Nat.add_assoc, Nat.add_comm 1 j]; exact h (j + 1) u (by simpa using hj)
    rw [List.length_cons]
    unfold cellsAt
    rw [show off + 0 = off from rfl] at h0
    rw [h0, ih]
theorem spot_none {W : World} {a : Addr} {v : Value} (h : W.cell? a = some v) : a.spot = none := by
  obtain ⟨blk, off, spot⟩ := a
  cases spot with
  | none => rfl
  | some z => unfold World.cell? at h; split at h <;> simp at h
theorem add_spot_none {blk off z i : Nat} {W : World} {v : Value} (h : W.cell? ((⟨blk, off, some z⟩ : Addr).add 0) = some v) : False := by
  have := spot_none h
  rw [show (⟨blk, off, some z⟩ : Addr).add 0 = ⟨blk, off, some z⟩ from rfl] at this
  cases this
theorem trod_slices {t e : TypeId} {d n fuel : Nat} {cs : List Value} {x : DataW H × List MemPlace} (ht : P.underlying t = some (.slice e)) (he : flK P k d e = some n) (hn : 0 < n) (h : DataW.trod enc P W base spare held fuel t cs = some x) :
    ∃ (l : List (List Int)) (sa : Option Addr) (cap : Nat), cs = [.slice sa l.length cap] ∧ l.length ≤ maxLen ∧ (∀ p ∈ l, p.length = n ∧ ∀ a ∈ p, wfI k a) ∧ FlatAt W k sa n l := by
  rcases open_slice ht h with ⟨e1, _⟩ | ⟨a, len, cap, m, n', D, Pl, e1, hb, hl, hm, hmm, _, hx⟩
  · exact ⟨[], none, 0, e1, Nat.zero_le _, by simp, fun i p hi => by simp at hi⟩
  · have hlm : len ≤ m := by rw [hmm]; split <;> omega
    have hce := flK_cells he
    have each : ∀ i, i < len → ∃ p : List Int, (p.length = n ∧ ∀ b ∈ p, wfI k b) ∧ ∀ j, j < n → W.cell? (a.add (i * n + j)) = (p.map (Value.int k))[j]? := fun i hi => by
      obtain ⟨cs', h1, h2⟩ := hx i (by omega)
      rw [hce] at h1
      obtain ⟨p, h3, h4, h5⟩ := trod_fl he h2
      obtain ⟨_, _, hc⟩ := World.cells?_some h1
      refine ⟨p, ⟨h3, h5⟩, fun j hj => ?_⟩
      rw [← h4, ← hc j hj, add_add]
    obtain ⟨F, hF⟩ : ∃ F : Nat → List Int, ∀ i, i < len → ((F i).length = n ∧ ∀ b ∈ F i, wfI k b) ∧ ∀ j, j < n → W.cell? (a.add (i * n + j)) = ((F i).map (Value.int k))[j]? :=
      ⟨fun i => if hi : i < len then (each i hi).choose else [], fun i hi => by simp only [hi, dif_pos]; exact (each i hi).choose_spec⟩
    have hget : ∀ i p, ((List.range len).map F)[i]? = some p → i < len ∧ F i = p := fun i p hi => by
      rw [List.getElem?_map] at hi
      have hil : i < len := by
        rcases Nat.lt_or_ge i len with h | h
        · exact h
        · rw [List.getElem?_eq_none (by simpa using h)] at hi; cases hi
      rw [List.getElem?_range hil] at hi
      exact ⟨hil, Option.some.inj hi⟩
    refine ⟨(List.range len).map F, some a, cap, by simpa using e1, by simp; omega, fun p hp => ?_, fun i p hi => ?_⟩
    · obtain ⟨i, hi, rfl⟩ := List.mem_map.1 hp
      exact (hF i (List.mem_range.1 hi)).1
    · obtain ⟨hil, rfl⟩ := hget i p hi
      obtain ⟨⟨h1, _⟩, h2⟩ := hF i hil
      obtain ⟨blk, off, spot⟩ := a
      have hv : ∀ i, i < len → ∀ j, j < n → ∃ v, W.cell? ((⟨blk, off, spot⟩ : Addr).add (i * n + j)) = some v := fun i hi j hj => by
        obtain ⟨⟨h1, _⟩, h2⟩ := hF i hi
        rw [h2 j hj]
        exact ⟨_, List.getElem?_eq_getElem (by simp; omega)⟩
      have hsp : spot = none := by
        cases spot with
        | none => rfl
        | some z =>
          obtain ⟨v, hv⟩ := hv 0 (by omega) 0 hn
          rw [Nat.zero_mul] at hv
          exact (add_spot_none (i := 0) hv).elim
      subst hsp
      obtain ⟨v0, hv0⟩ := hv i hil 0 hn
      rw [add_spot] at hv0
      unfold World.cell? at hv0
      simp only at hv0
      cases hbk : W.heap[blk]? with
      | none => rw [hbk] at hv0; simp at hv0
      | some o =>
        rw [hbk] at hv0
        cases o <;> simp at hv0
        rename_i c T fr
        refine ⟨blk, off, c, T, fr, rfl, hbk, ?_⟩
        have hlen : ((F i).map (Value.int k)).length = n := by simp [h1]
        rw [← hlen]
        refine cellsAt_of _ _ fun j v hj => ?_
        have hjn : j < n := by rw [← hlen]; exact (List.getElem?_eq_some_iff.1 hj).1
        have h3 := h2 j hjn
        rw [hj, add_spot] at h3
        unfold World.cell? at h3
        simp only [hbk] at h3
        rw [hlen, Nat.add_assoc]; exact h3
/-- The fields of a struct, each alone. -/
theorem trod_field {t : TypeId} {fs : Array Field} {fuel : Nat} {cs : List Value} {x : DataW H × List MemPlace} (ht : P.underlying t = some (.struct fs)) (h : DataW.trod enc P W base spare held fuel t cs = some x) :
    cs.length = P.cellsOf t ∧ ∀ (i o : Nat) (u : TypeId) (c : Nat), (fs.map (fun f => (f.offset, f.type)))[i]? = some (o, u) → P.cellsOf u = c → ∃ n y, DataW.trod enc P W base spare held n u ((cs.drop o).take c) = some y := by
  obtain ⟨xs, n, _, _, hl, hxl, hf⟩ := DataW.trod_struct ht h
  refine ⟨hl, fun i o u c hi hc => ?_⟩
  rw [Array.getElem?_map] at hi
  cases hfi : fs[i]? with
  | none => rw [hfi] at hi; cases hi
  | some f =>
    rw [hfi] at hi
    simp only [Option.map_some, Option.some.injEq, Prod.mk.injEq] at hi
    obtain ⟨rfl, rfl⟩ := hi
    have hil : i < xs.length := by rw [hxl]; exact (Array.getElem?_eq_some_iff.1 hfi).1
    subst hc
    exact ⟨n, xs[i], by rw [hf i f hfi, List.getElem?_eq_getElem hil]⟩
theorem wf64 {a : Int} (h : wfI .i64 a) : -9223372036854775808 ≤ a ∧ a ≤ 9223372036854775807 := by
  unfold wfI at h
  simp only [Lit.wf, Bool.and_eq_true, decide_eq_true_eq] at h
  have h8 : IntKind.i64.min = -9223372036854775808 := by decide
  have h9 : IntKind.i64.max = 9223372036854775807 := by decide
  rw [h8, h9] at h; exact h
theorem wf16 {a : Int} (h : wfI .u16 a) : 0 ≤ a ∧ a ≤ 65535 := by
  unfold wfI at h
  simp only [Lit.wf, Bool.and_eq_true, decide_eq_true_eq] at h
  have h8 : IntKind.u16.min = 0 := by decide
  have h9 : IntKind.u16.max = 65535 := by decide
  rw [h8, h9] at h; exact h
end
end Go.Sy

namespace Go.Sy
open Go Go.Proofs Go.ChangeShapes Go.WideShapes
theorem Ext.sameAt {W W' : World} (e : Ext [] W W') {p : MemPlace} (hp : p.block < W.heap.size) : W.sameAt W' p := by
  cases p with
  | cell b off => exact World.cell?_of_block (w := W) (w' := W') (a := ⟨b, off, none⟩) (e.block b hp (by simp))
  | map b => exact e.block b hp (by simp)
theorem Ext.kept {W W' : World} (e : Ext [] W W') (may : MemPlace → Prop) : W.keptBut W' may := by
  refine ⟨e.os, e.output, fun i hi => ?_⟩
  rw [e.block i hi (by simp)]
  cases W.heap[i]? with
  | none => trivial
  | some o => cases o <;> simp
section
variable {H : Type} {enc : TypeId × Value → H} {P : Program}
theorem trodAll_stays (hl : laidOutB P = true) {W W' : World} (e : Ext [] W W') {sp' : Nat → Bool} : ∀ (ts : List TypeId) (vs : List Value) (ds : List (DataW H)) (ps : List MemPlace), (∀ t ∈ ts, P.readableRec t = true ∧ t < P.types.size) →
    DataW.TrodAll enc P W 0 (fun _ => true) true ts vs ds ps → (∀ p ∈ ps, p.block < W.heap.size) → (∀ p ∈ ps, sp' p.block = true) → DataW.TrodAll enc P W' 0 sp' true ts vs ds ps
  | [], [], [], _, _, h, _, _ => h
  | t :: ts, v :: vs, d :: ds, ps, ht, ⟨p, q, h1, h2, e1⟩, hlt, hs => by
    subst e1
    exact ⟨p, q, WideElems.Trod_stays hl (ht t (by simp)).1 (ht t (by simp)).2 h1 (fun x hx => e.sameAt (hlt x (by simp [hx]))) (fun x hx => hs x (by simp [hx])),
      trodAll_stays hl e ts vs ds q (fun u hu => ht u (by simp [hu])) h2 (fun x hx => hlt x (by simp [hx])) (fun x hx => hs x (by simp [hx])), rfl⟩
theorem post_ext {f : Func} {s : ChangeSpec} {apart fresh handsOn again : Bool} {W W' : World} {args : Array Value} {v : Value} {ds : List (DataW H)} {before : List MemPlace}
    (hl : laidOutB P = true) (ht : ∀ t ∈ f.params.toList, P.readableRec t = true ∧ t < P.types.size) (hv : s.vars = []) (e : Ext [] W W')
    (hW : DataW.Whole enc P f.params.toList s.vars apart W args.toList ds [] before) (hfa : (s.fn H (ds ++ [])).args = ds) (hfv : (s.fn H (ds ++ [])).vars = [])
    (hres : ∀ (b : Nat) (sp : Nat → Bool) (hd : Bool), DataW.TrodAll enc P W' b sp hd f.resultTypes.toList (v.resultList f.resultTypes.size) (s.fn H (ds ++ [])).results [])
    (hok : ∀ (j : Nat) (t : TypeId) (r : Value), f.resultTypes[j]? = some t → (v.resultList f.resultTypes.size)[j]? = some r → Value.okWide P W' .any 0 t r) :
    s.post enc P f apart fresh handsOn again W args v W' := by
  have hlt : ∀ p ∈ before, p.block < W.heap.size := fun p hp => hW.lt p hp
  have hW0 := hW
  obtain ⟨p, q, hA, hVq, hpq, hz, hn⟩ := hW0
  rw [hv] at hVq
  have hq : q = [] := hVq
  subst hq
  rw [List.append_nil] at hpq
  subst hpq
  have hargs : ∀ sp' : Nat → Bool, (∀ x ∈ before, sp' x.block = true) → DataW.TrodAll enc P W' 0 sp' true f.params.toList args.toList (s.fn H (ds ++ [])).args before := fun sp' hs => by
    rw [hfa]; exact trodAll_stays hl e _ _ _ _ ht hA hlt hs
  have hvars : ∀ sp' : Nat → Bool, DataW.TrodVars enc P W' sp' s.vars (s.fn H (ds ++ [])).vars [] := fun sp' => by rw [hv, hfv]; rfl
  refine ⟨ds, [], before, [], before, [], hW, hres _ _ _, hargs _ (fun x hx => by simpa using hlt x hx), hvars _, e.kept _, fun _ => ⟨hok, _, _, ([] ++ before) ++ [], ⟨[] ++ before, [], trodAll_append (hargs _ (fun _ _ => rfl)) (hres _ _ _), hvars _, rfl, ?_, ?_⟩, ?_⟩⟩
  · intro b off hp
    have hp' : MemPlace.cell b off ∈ before := by simpa using hp
    have := hz b off hp'
    unfold World.frozen? at *
    rw [e.block b (hlt _ hp') (by simp)]
    exact this
  · intro ha
    simpa using hn ha
  · intro x hx _
    simpa using hx
end
end Go.Sy

namespace Go.Sy
open Go Go.Proofs
section
variable {P : Program} {C : World → Prop} {L : List (Nat × Value)} {dd : Option Tmp} {ty : TypeId} {pos : String} {af : Array Edge} {gd : Option (Nat × Bool)}
end
section
open Go.ChangeShapes Go.WideShapes Go.Deep
variable {P : Program} {H : Type} {enc : TypeId × Value → H} {W : World} {base : Nat} {spare : Nat → Bool} {held : Bool}
end
end Go.Sy

namespace Go.Sy
open Go Go.Proofs Go.RowKit
/-- Cells behind a slice. -/
def ValsIn (w : World) (sa : Option Addr) (vs : List Value) : Prop := vs = [] ∨ ∃ blk off c T fr, sa = some ⟨blk, off, none⟩ ∧ w.heap[blk]? = some (.cells c T fr) ∧ ∀ j v, vs[j]? = some v → c[off + j]? = some v
section
variable {P : Program} {r : Option Nat} {all : Array Oper} {Q : Exit → Act → World → Prop} {rest : List Oper} {a : Act} {w w0 : World} {M : List Nat} {H : List (Nat × Obj)} {n : Nat} {ds : List Deferred} {L : List (Nat × Value)} {v : Value} {d : Nat}
  {ty : TypeId} {pos : String} {af : Array Edge} {gd : Option (Nat × Bool)}
end
end Go.Sy

namespace Go.Sy
open Go Go.Proofs Go.RowKit
section
variable {P : Program} {C : World → Prop} {L : List (Nat × Value)} {dd : Option Tmp} {ty : TypeId} {pos : String} {af : Array Edge} {gd : Option (Nat × Bool)}
end
end Go.Sy

namespace Go.Sy
open Go Go.Proofs Go.RowKit Go.ChangeShapes Go.WideShapes Go.Deep
section
variable {P : Program} {H : Type} {enc : TypeId × Value → H} {W : World} {base : Nat} {spare : Nat → Bool} {held : Bool}
end
end Go.Sy

namespace Go.Sy
open Go Go.Proofs Go.RowKit
/-- A callee turned the blocks of X, and left those of X'. -/
theorem Hp.swap {w0 : World} {M : List Nat} {X X' Z : List (Nat × Obj)} {w w' : World} (h : Hp w0 M (X ++ Z) w) (h' : Hp w (X.map Prod.fst) X' w') : Hp w0 M (X' ++ Z) w' := by
  have hlt : ∀ p ∈ X ++ Z, p.1 < w.heap.size := fun p hp => (Array.getElem?_eq_some_iff.1 (h.get p hp)).1
  have hnd := h.nodup
  rw [List.map_append, List.nodup_append] at hnd
  have hz : ∀ p ∈ Z, p.1 ∉ X.map Prod.fst := fun p hp hx => hnd.2.2 _ hx _ (List.mem_map.2 ⟨p, hp, rfl⟩) rfl
  have hX : ∀ k ∈ X.map Prod.fst, w0.heap.size ≤ k ∨ k ∈ M := fun k hk => by
    obtain ⟨p, hp, rfl⟩ := List.mem_map.1 hk
    exact h.mine p (List.mem_append_left _ hp)
  refine ⟨⟨h'.ext.os.trans h.ext.os, h'.ext.tape.trans h.ext.tape, h'.ext.output.trans h.ext.output, Nat.le_trans h.ext.size h'.ext.size, Nat.le_trans h.ext.dr h'.ext.dr, fun k hk hm => ?_⟩, fun p hp => ?_, ?_, fun p hp => ?_⟩
  · rw [h'.ext.block k (Nat.lt_of_lt_of_le hk h.ext.size) (fun hx => by rcases hX k hx with h1 | h1; omega; exact hm h1), h.ext.block k hk hm]
  · rcases List.mem_append.1 hp with hp | hp
    · exact h'.get p hp
    · rw [h'.ext.block p.1 (hlt p (List.mem_append_right _ hp)) (hz p hp)]
      exact h.get p (List.mem_append_right _ hp)
  · rw [List.map_append, List.nodup_append]
    refine ⟨h'.nodup, hnd.2.1, fun a ha b hb e => ?_⟩
    obtain ⟨p, hp, rfl⟩ := List.mem_map.1 ha
    obtain ⟨q, hq, rfl⟩ := List.mem_map.1 hb
    rcases h'.mine p hp with h1 | h1
    · have := hlt q (List.mem_append_right _ hq); omega
    · rw [e] at h1; exact hz q hq h1
  · rcases List.mem_append.1 hp with hp | hp
    · rcases h'.mine p hp with h1 | h1
      · exact .inl (Nat.le_trans h.ext.size h1)
      · exact hX _ h1
    · exact h.mine p (List.mem_append_right _ hp)
/-- Values in memory, not in the blocks of X. -/
def ValsOff (w : World) (X : List (Nat × Obj)) (sa : Option Addr) (vs : List Value) : Prop :=
  vs = [] ∨ ∃ blk off c T fr, sa = some ⟨blk, off, none⟩ ∧ blk ∉ X.map Prod.fst ∧ w.heap[blk]? = some (.cells c T fr) ∧ ∀ j v, vs[j]? = some v → c[off + j]? = some v
theorem ValsOff.of {w : World} {sa : Option Addr} {vs : List Value} (h : ValsIn w sa vs) : ValsOff w [] sa vs := by
  rcases h with h | ⟨blk, off, c, T, fr, h1, h2, h3⟩
  · exact .inl h
  · exact .inr ⟨blk, off, c, T, fr, h1, by simp, h2, h3⟩
theorem ValsOff.keep {u w : World} {X X' : List (Nat × Obj)} {sa : Option Addr} {vs : List Value} (h : ValsOff u X sa vs) (hh : Hp u (X.map Prod.fst) X' w) : ValsOff w X' sa vs := by
  rcases h with h | ⟨blk, off, c, T, fr, h1, h0, h2, h3⟩
  · exact .inl h
  · have hlt := (Array.getElem?_eq_some_iff.1 h2).1
    refine .inr ⟨blk, off, c, T, fr, h1, fun hx => ?_, by rw [hh.ext.block blk hlt h0]; exact h2, h3⟩
    obtain ⟨p, hp, rfl⟩ := List.mem_map.1 hx
    rcases hh.mine p hp with h4 | h4
    · omega
    · exact h0 h4
theorem ValsOff.ext {u w : World} {X : List (Nat × Obj)} {sa : Option Addr} {vs : List Value} (h : ValsOff u X sa vs) (hh : Ext (X.map Prod.fst) u w) : ValsOff w X sa vs := by
  rcases h with h | ⟨blk, off, c, T, fr, h1, h0, h2, h3⟩
  · exact .inl h
  · exact .inr ⟨blk, off, c, T, fr, h1, h0, by rw [hh.block blk (Array.getElem?_eq_some_iff.1 h2).1 h0]; exact h2, h3⟩
/-- A list of slices. -/
def HdsAt {α : Type} (enc : α → List Value) (len : α → Nat) (w : World) (X : List (Nat × Obj)) (hs : List Value) (ws : List α) : Prop :=
  hs.length = ws.length ∧ ∀ (j : Nat) (c : α), ws[j]? = some c → ∃ (sb : Option Addr) (cb : Nat), hs[j]? = some (Value.slice sb (len c) cb) ∧ ValsOff w X sb (enc c)
section
variable {α : Type} {enc : α → List Value} {len : α → Nat} {u w : World} {X X' : List (Nat × Obj)} {hs hs' : List Value} {ws ws' : List α}
theorem HdsAt.nil : HdsAt enc len w X [] [] := ⟨rfl, fun j c h => by simp at h⟩
theorem HdsAt.keep (h : HdsAt enc len u X hs ws) (hh : Hp u (X.map Prod.fst) X' w) : HdsAt enc len w X' hs ws :=
  ⟨h.1, fun j c hj => by obtain ⟨sb, cb, h1, h2⟩ := h.2 j c hj; exact ⟨sb, cb, h1, h2.keep hh⟩⟩
theorem HdsAt.ext (h : HdsAt enc len u X hs ws) (hh : Ext (X.map Prod.fst) u w) : HdsAt enc len w X hs ws :=
  ⟨h.1, fun j c hj => by obtain ⟨sb, cb, h1, h2⟩ := h.2 j c hj; exact ⟨sb, cb, h1, h2.ext hh⟩⟩
theorem HdsAt.app (h : HdsAt enc len w X hs ws) (h' : HdsAt enc len w X hs' ws') : HdsAt enc len w X (hs ++ hs') (ws ++ ws') := by
  refine ⟨by rw [List.length_append, List.length_append, h.1, h'.1], fun j c hj => ?_⟩
  rw [List.getElem?_append] at hj ⊢
  rw [h.1]
  split at hj
  · rename_i hl; rw [if_pos hl]; exact h.2 j c hj
  · rename_i hl; rw [if_neg hl]; exact h'.2 _ c hj
theorem HdsAt.one {c : α} {sb : Option Addr} {cb : Nat} (h : ValsOff w X sb (enc c)) : HdsAt enc len w X [Value.slice sb (len c) cb] [c] :=
  ⟨rfl, fun j x hj => by
    match j, hj with
    | 0, hj => cases hj; exact ⟨sb, cb, rfl, h⟩
    | j + 1, hj => simp at hj⟩
end
end Go.Sy

namespace Go.Sy
open Go Go.Proofs Go.RowKit
section
variable {P : Program} {r : Option Nat} {all : Array Oper} {Q : Exit → Act → World → Prop} {rest : List Oper} {a : Act} {w w0 : World} {M : List Nat} {H : List (Nat × Obj)} {n : Nat} {ds : List Deferred} {L : List (Nat × Value)} {d : Nat} {ty : TypeId} {pos : String} {af : Array Edge} {gd : Option (Nat × Bool)}
end
end Go.Sy

namespace Go.Sy
open Go Go.Proofs Go.RowKit
/-- The call returned, and so; or it panicked, and so. -/
def RetX (R : Value → World → Prop) (X : List PanicEntry → World → Prop) : Ending → World → Prop
  | .returned v, w => R v w
  | .panicked c, w => X c w
  | .outgrown, _ => False
section
variable {P : Program} {r : Option Nat} {all : Array Oper} {Q : Exit → Act → World → Prop} {rest : List Oper} {a : Act} {w w0 : World} {n : Nat} {ds : List Deferred} {L : List (Nat × Value)} {v : Value} {d : Nat}
  {ty : TypeId} {pos : String} {af : Array Edge} {gd : Option (Nat × Bool)}
theorem opsW_enterX {o : Oper} {w' : World} {f : FuncId} {args : Array Value} {R : Value → World → Prop} {X : List PanicEntry → World → Prop}
    (hg : Region.wanted o (yielded all a.tmps) = true) (hd : isDefer o.op = false) (h : (execOp a.eval o).run P w = .ok (.enter f args) w')
    (hc : CallsIn (FR r) 0 P f args w' (RetX R X)) (k : ∀ v w'', R v w'' → OpsW P r all Q rest (a.put o.dst v) w'') (kx : ∀ c w'', X c w'' → Q (.panic c) a w'') : OpsW P r all Q (o :: rest) a w := by
  simp only [OpsW, hg, if_true, Oper.wpIn, semAt_of hd]
  rw [h]
  exact ⟨fun _ _ => trivial, depth_triv r 0, hc.mono fun e w'' he => by
    cases e with
    | returned v => exact k _ _ he
    | panicked c => exact kx _ _ he
    | outgrown => exact he.elim⟩
theorem o_callX {fop : Operand} {args : List Operand} {ats : Array TypeId} {f : FuncId} {fs cs : Array Value} {vs : List Value} {av : Array Value} {R : Value → World → Prop} {X : List PanicEntry → World → Prop} (hf : Fr n ds L a) (hE : Enters P f)
    (hfv : ev L fop = some (.func (.func f) fs cs)) (hargs : evs L args = some vs) (hav : fs ++ vs.toArray ++ cs = av) (hc : Calls P f av w (RetX R X))
    (k : ∀ (v : Value) (a : Act) (w : World), R v w → Fr n ds ((d, v) :: L) a → OpsW P r all Q rest a w) (kx : ∀ c w', X c w' → Fr n ds L a → Q (.panic c) a w')
    (hg : GOn all L ⟨some d, .call ⟨.value fop, args.toArray, ats⟩, ty, pos, af, gd⟩ := by first | exact .inl rfl | exact gon' rfl rfl rfl) (hn : Nat.blt d n = true := by rfl) :
    OpsW P r all Q (⟨some d, .call ⟨.value fop, args.toArray, ats⟩, ty, pos, af, gd⟩ :: rest) a w := by
  subst hav
  refine opsW_enterX (hg.wanted hf) rfl (run_call hf.agree hE hfv hargs) ((callsIn_wide (n := 0)).2 hc) (fun v w'' hR => ?_) fun c w'' hX => kx c w'' hX hf
  exact k v _ w'' hR (hf.put (blt_lt hn) v)
/-- The text's own panic. -/
theorem o_panic {x : Operand} {T : TypeId} {dd : Option Nat} (hf : Fr n ds L a) (h : Fr n ds L a → Q (.panic [{ v := .iface T v, recovered := false }]) a w) (hx : ev L x = some (.iface T v) := by rfl)
    (hg : GOn all L ⟨dd, .panic x, ty, pos, af, gd⟩ := by first | exact .inl rfl | exact gon' rfl rfl rfl) : OpsW P r all Q (⟨dd, .panic x, ty, pos, af, gd⟩ :: rest) a w := by
  have h1 := hf.agree x _ hx
  simp only [OpsW, hg.wanted hf, if_true, Oper.wpIn, semAt_of (r := r) (ρ := a.eval) (o := ⟨dd, .panic x, ty, pos, af, gd⟩) rfl]
  refine ⟨fun _ _ => trivial, ?_⟩
  have e : (execOp a.eval ⟨dd, .panic x, ty, pos, af, gd⟩).run P w = .halt (.panic (.iface T v)) w := by
    simp [execOp, h1, Instr.panic]
  rw [e]
  exact h hf
/-- A call that is deferred. -/
theorem o_defer {fop : Operand} {args : List Operand} {ats : Array TypeId} {fn : Fn} {fs cs : Array Value} {vs : List Value} (hf : Fr n ds L a)
    (k : ∀ (a : Act), Fr n (⟨.fn fn cs, fs ++ vs.toArray⟩ :: ds) L a → OpsW P none all Q rest a w) (hfv : ev L fop = some (.func fn fs cs) := by rfl) (hargs : evs L args = some vs := by rfl)
    (hg : GOn all L ⟨none, .defer ⟨.value fop, args.toArray, ats⟩, ty, pos, af, gd⟩ := by first | exact .inl rfl | exact gon' rfl rfl rfl) :
    OpsW P none all Q (⟨none, .defer ⟨.value fop, args.toArray, ats⟩, ty, pos, af, gd⟩ :: rest) a w := by
  have h1 := hf.agree fop _ hfv
  have h2 := evs_map hf.agree _ _ hargs
  simp only [OpsW, hg.wanted hf, if_true, Oper.wpIn]
  refine ⟨fun _ _ => trivial, ?_⟩
  have e : (Oper.semAt none a.eval ⟨none, .defer ⟨.value fop, args.toArray, ats⟩, ty, pos, af, gd⟩).run P w = .ok (.defer ⟨.fn fn cs, fs ++ vs.toArray⟩) w := by
    rw [Oper.semAt_none]
    simp [execOp, resolve, Deferred.ofValue, h1, h2]
  show Oper.uponIn _ _ _ _ _ _ _ (Sem.run P (Oper.semAt none a.eval _) w)
  rw [e]
  exact k _ ⟨hf.size, by show _ :: a.defers = _; rw [hf.defers], hf.get⟩
end
section
variable {P : Program} {a : Act} {w : World} {n : Nat} {ds : List Deferred} {L : List (Nat × Value)} {fn : Func} {R : Value → World → Prop} {X : List PanicEntry → World → Prop}
theorem calls_ofX {f : FuncId} {c : Code} {vs : List Value} (hf : P.funcs[f]? = some fn) (hb : fn.body = some c) (hn : Nat.ble vs.length fn.ntmps = true)
    (h : ∀ a, Fr fn.ntmps [] (argL 0 vs) a → WP P none c (bodyPost P fn (RetX R X)) a w) : Calls P f vs.toArray w (RetX R X) :=
  (callsIn_wide (n := 0)).1 (callsIn_of_wp (F := FR none) hf hb trivial (h _ (Fr.enter vs fn.ntmps (Nat.le_of_ble_eq_true hn))) rfl)
theorem ret_x (h : bodyPost P fn (Ret R) .ret a w) : bodyPost P fn (RetX R X) .ret a w := h
theorem ret_xn (h : bodyPost P fn (Ret R) .normal a w) : bodyPost P fn (RetX R X) .normal a w := h
theorem pan_x {c : List PanicEntry} (hf : Fr n [] L a) (h : X c w) : bodyPost P fn (RetX R X) (.panic c) a w := ⟨hf.defers, h⟩
/-- A deferred call of a function, where the frame leaves. -/
theorem leaves_call {tmps : Array Value} {R' : Ending → World → Prop} {f : FuncId} {cap args : Array Value} {u : FrameMode} (hu : u ≠ .run) (hE : Enters P f)
    (hc : CallsDIn (FR none) 0 P f (args ++ cap) u w (fun e u' w' => ∃ v, e = .returned v ∧ LeavesInM (FR none) 0 P fn tmps R' ds (settle u') w')) :
    LeavesInM (FR none) 0 P fn tmps R' (⟨.fn (.func f) cap, args⟩ :: ds) u w := by
  refine ⟨hu, .inr ⟨depth_triv none 0, .func f, cap, f, args ++ cap, rfl, hE _ w, fun _ _ => trivial, hc.mono fun e u' w' he => ?_⟩⟩
  obtain ⟨v, rfl, h⟩ := he
  exact h
end
end Go.Sy

namespace Go.Sy
open Go Go.Proofs Go.RowKit
/-- The blocks of N' are those of N, or new. -/
def Grows (N N' : List Nat) (w : World) : Prop := ∀ x ∈ N', x ∈ N ∨ w.heap.size ≤ x
theorem Grows.refl (N : List Nat) (w : World) : Grows N N w := fun _ h => .inl h
theorem Grows.trans {N N' N'' : List Nat} {w w' : World} (h : Grows N N' w) (h' : Grows N' N'' w') (hs : w.heap.size ≤ w'.heap.size) : Grows N N'' w := fun x hx => by
  rcases h' x hx with h1 | h1
  · exact h x h1
  · exact .inr (Nat.le_trans hs h1)
theorem Ext.put {O : List Nat} {v w : World} {b : Nat} (h : Ext O v w) (hb : b ∈ O) (o : Obj) : Ext O v (w.putObj b o) :=
  h.trans ((putObj_ext w b o).mono (by simpa using hb))
section
variable {P : Program} {Q : Exit → Act → World → Prop} {a : Act} {w : World} {n : Nat} {ds : List Deferred} {L : List (Nat × Value)}
end
end Go.Sy

namespace Go.Sy
open Go Go.Proofs Go.RowKit
section
variable {P : Program} {Q : Exit → Act → List Frame → World → Prop} {a : Act} {cs : List Frame} {w : World}
theorem stepsR_recover {n : Nat} {b : Frame} {k : List Item} {o : Oper} {rest : List Oper} (hb : b.kind = .deferred) (hro : b.roundOf = none) (hF : (FR none).fn b.fn) (hroom : (FR none).room (cs.length + 1 + n))
    (hg : o.guard = none) (hd : o.op = .call ⟨.builtin .recover, #[], #[]⟩) (v : Value) (cs' : List Frame) (hv : recoverD cs = some (v, cs') ∨ recoverD cs = none ∧ v = .nilIface ∧ cs' = cs) (l : List Nat) :
    (lone (b.atR a (.inRegion (o :: rest).toArray (0 :: l) :: k)) cs w).fenced P (FR none) ∧ step P (lone (b.atR a (.inRegion (o :: rest).toArray (0 :: l) :: k)) cs w) = .next (lone (b.atR (a.put o.dst v) (.inRegion (o :: rest).toArray l :: k)) cs' w) := by
  have ho : (o :: rest).toArray[0]? = some o := by simp
  have hw : Region.wanted o (yielded (o :: rest).toArray a.tmps) = true := by simp [Region.wanted, hg]
  have hr : (execOp a.eval o).run P w = .ok .recover w := by
    obtain ⟨od, oo, ot, op, oa, og⟩ := o
    simp only at hd hg
    subst hd
    simp [execOp, resolve, invoke, builtin]
  refine ⟨fenced_oper hF hroom ho (fun f _ => trivial), ?_⟩
  have hg := stepGR_op (P := P) (b := b) (a := a) (k := k) (cs := cs) (w := w) (rest := l) ho hw
  rw [hro, Oper.semAt_none] at hg
  have hfin : ∀ v, (b.atR a (.inRegion (o :: rest).toArray (0 :: l) :: k)).finish v = b.atR (a.put o.dst v) (.inRegion (o :: rest).toArray l :: k) := by
    intro v; rw [Frame.finish_atR, ho]; rfl
  have hk : (b.atR a (.inRegion (o :: rest).toArray (0 :: l) :: k)).kind = .deferred := hb
  have htr := tryRecover_deferred hk cs
  refine step_lone_go ?_
  rw [hg, ← hfin]
  simp only [Frame.atR, hro] at htr ⊢
  rcases hv with h1 | ⟨h1, h2, h3⟩
  · simp [stepG.apply, hr, htr, h1]
  · subst h2; subst h3; simp [stepG.apply, hr, htr, h1]
/-- A region that recovers, and goes on. -/
theorem wpSIn_recover {id : Nat} {o : Oper} {rest : List Oper} {v : Value} {cs' : List Frame} (hg : o.guard = none) (hd : o.op = .call ⟨.builtin .recover, #[], #[]⟩)
    (hv : recoverD cs = some (v, cs') ∨ recoverD cs = none ∧ v = .nilIface ∧ cs' = cs) (h : OpsW P none (o :: rest).toArray (fun e a' w' => Q e a' cs' w') rest (a.put o.dst v) w) :
    (Code.region id (o :: rest).toArray false).wpSIn (FR none) 0 P Q a cs w := by
  intro b k hb hro hF hroom
  have hlen : cs'.length = cs.length := by
    rcases hv with h1 | ⟨_, _, h3⟩
    · exact recoverD_length h1
    · rw [h3]
  obtain ⟨hfen, hst⟩ := stepsR_recover (P := P) (a := a) (w := w) (k := k) hb hro hF hroom hg hd v cs' hv (List.range' 1 rest.length)
  have hops := opsW_sound (P := P) (r := none) (ops := (o :: rest).toArray) rest 1 (a.put o.dst v) w (fun j _ => by simp [Nat.add_comm 1 j]) h
  obtain ⟨e, a', w', hq, harr⟩ := wp_opsIn _ _ _ hops b k cs' hro hF (hlen ▸ hroom)
  have hrange : List.range (o :: rest).toArray.size = 0 :: List.range' 1 rest.length := by
    simp [List.range_eq_range', List.range'_succ]
  refine ⟨e, a', cs', w', hlen, hq, .of_steps (.one (fenced_calm hF hroom rfl) stepR_region) ?_⟩
  rw [hrange]
  exact .of_steps (.one hfen hst) harr
end
section
variable {P : Program} {C : World → Prop} {L : List (Nat × Value)} {dd : Option Tmp} {ty : TypeId} {pos : String} {af : Array Edge} {gd : Option (Nat × Bool)}
def ifaceB (P : Program) (t : TypeId) : Bool := match P.underlying t with
  | some (.interface _) => true
  | _ => false
theorem ifaceB_eq {t : TypeId} (ht : ifaceB P t = true) : ∃ ms, P.underlying t = some (.interface ms) := by
  unfold ifaceB at ht
  split at ht
  · rename_i ms hu; exact ⟨ms, hu⟩
  · cases ht
theorem run_eqNil (d : Nat) {t : TypeId} (ht : ifaceB P t = true) (w : World) : (Op.equalIn (d + 1) t .nilIface .nilIface).run P w = .ok true w ∧ ∀ tx v, (Op.equalIn (d + 1) t (.iface tx v) .nilIface).run P w = .ok false w := by
  obtain ⟨ms, hu⟩ := ifaceB_eq ht
  exact ⟨by simp [Op.equalIn, run_underlying hu], fun tx v => by simp [Op.equalIn, run_underlying hu]⟩
def plainB (P : Program) (t : TypeId) : Bool := match P.underlying t with
  | some (.struct _) => true
  | _ => false
/-- The type that is asked for. -/
theorem yv_assert {t tx : TypeId} {v : Value} {x : Operand} (ht : plainB P tx = true) (hx : ev L x = some (.iface tx v)) :
    Yv P C L ⟨dd, .typeAssert x t tx true, ty, pos, af, gd⟩ (.tuple #[v, .bool true]) := fun ρ hρ w _ => by
  unfold plainB at ht
  split at ht
  · rename_i fs hu
    simp [execOp, hρ _ _ hx, Instr.typeAssert, run_underlying hu]
  · cases ht
def concB (P : Program) (t : TypeId) : Bool := match P.underlying t with
  | some (.interface _) => false
  | some _ => true
  | none => false
theorem yv_makeIface {t : TypeId} {v : Value} {x : Operand} (ht : concB P t = true) (hx : ev L x = some v) :
    Yv P C L ⟨dd, .makeInterface t x, ty, pos, af, gd⟩ (.iface t v) := fun ρ hρ w _ => by
  unfold concB at ht
  split at ht
  · cases ht
  · rename_i td hne hu
    have e : (Instr.makeInterface t v).run P w = .ok (.iface t v) w := by
      unfold Instr.makeInterface
      rw [Sem.run_bind, run_underlying hu]
      simp only [Result.andThen_ok]
      rfl
    simp [execOp, hρ _ _ hx, e]
  · cases ht
end
end Go.Sy

namespace Go.Sy
open Go Go.Proofs Go.RowKit
section
variable {P : Program} {r : Option Nat} {Q : Exit → Act → World → Prop} {a : Act} {w : World} {c : List PanicEntry}
theorem then_p {K : Act → World → Prop} (h : Q (.panic c) a w) : Exit.then K Q (.panic c) a w := h
theorem blk_p {id : Nat} (h : Q (.panic c) a w) : Exit.inBlock id Q (.panic c) a w := h
theorem ng_p (h : Q (.panic c) a w) : noGoto Q (.panic c) a w := h
end
section
variable {P : Program} {fn : Func} {R : Value → World → Prop} {n : Nat} {L : List (Nat × Value)} {a : Act} {w w0 : World} {M : List Nat}
theorem leaves_marksU {tmps : Array Value} {R' : Ending → World → Prop} {ds : List Deferred} {u : FrameMode} (hu : u ≠ .run) : ∀ (Ds : List Nat) (H : List (Nat × Obj)) (w : World), Hp w0 M (dls Ds ++ H) w →
    (∀ w', Hp w0 M H w' → LeavesInM (FR none) 0 P fn tmps R' ds u w') → LeavesInM (FR none) 0 P fn tmps R' (mkd Ds ++ ds) u w
  | [], H, w, hh, k => k w hh
  | D :: Ds, H, w, hh, k => by
    have hi : (dls (D :: Ds) ++ H)[0]? = some (D, .deferred (some [])) := rfl
    refine ⟨hu, .inl ⟨D, w.putObj D (.deferred none), rfl, run_takeDeferred (hh.at hi), ?_⟩⟩
    exact leaves_marksU hu Ds H _ ((hh.put hi (.deferred none)).less (.cons _ (List.Sublist.refl _))) k
/-- The end of a deferred closure without results. -/
theorem ends_s {c₀ : Frame} {cs : List Frame} {u' : FrameMode} {R' : Ending → FrameMode → World → Prop} {fr : Frame} (hf : Fr n [] L a) (hr : fn.results = #[]) (hfr : fr = { c₀ with mode := u' }) (h : R' (.returned (.tuple #[])) u' w) : bodyPostS P fn c₀ cs R' .normal a (fr :: cs) w :=
  ⟨hf.defers, u', by rw [hfr], .tuple #[], by simp [results, hr], h⟩
theorem frame_same {c₀ : Frame} {u : FrameMode} (h : c₀.mode = u) : c₀ = { c₀ with mode := u } := by subst h; rfl
end
end Go.Sy

namespace Go.Sy
open Go Go.Proofs
section
variable {P : Program}
end
/-- Each entry of a map is what it should be. -/
def MemoV {κ : Type} (enc : κ → Value) (F : κ → Value) (es : Array MapEntry) : Prop := ∀ e ∈ es.toList, ∃ p, e.key = enc p ∧ e.val = F p
theorem MemoV.nil {κ : Type} (enc : κ → Value) (F : κ → Value) : MemoV enc F #[] := fun e h => by simp at h
section
variable {P : Program} {κ : Type} [DecidableEq κ] {enc : κ → Value} {ke : TypeId} {F : κ → Value}
variable {C : World → Prop} {L : List (Nat × Value)} {dd : Option Tmp} {ty : TypeId} {pos : String} {af : Array Edge} {gd : Option (Nat × Bool)}
variable {r : Option Nat} {all : Array Oper} {Q : Exit → Act → World → Prop} {rest : List Oper} {a : Act} {w w0 : World} {M : List Nat} {H : List (Nat × Obj)} {n : Nat} {ds : List Deferred} {d : Nat}
end
end Go.Sy

namespace Go.Sy
open Go Go.Proofs
def Held (N : List Nat) (w : World) (l : List (Nat × Obj)) : Prop := ∀ q ∈ l, w.heap[q.1]? = some q.2 ∧ q.1 ∉ N
theorem Held.step {N N' : List Nat} {w w' : World} {l : List (Nat × Obj)} (h : Held N w l) (e : Ext N w w') (g : Grows N N' w) : Held N' w' l := fun q hq => by
  obtain ⟨h1, h2⟩ := h q hq
  refine ⟨e.getM h1 h2, fun h3 => ?_⟩
  have := (Array.getElem?_eq_some_iff.1 h1).1
  rcases g _ h3 with h4 | h4
  · exact h2 h4
  · omega
theorem Held.ext {N : List Nat} {w w' : World} {l : List (Nat × Obj)} (h : Held N w l) (e : Ext [] w w') : Held N w' l := fun q hq => ⟨e.get (h q hq).1, (h q hq).2⟩
theorem Held.at {N : List Nat} {w : World} {l : List (Nat × Obj)} (h : Held N w l) (i : Nat) {b : Nat} {o : Obj} (hi : l[i]? = some (b, o)) : w.heap[b]? = some o := (h _ (List.mem_of_getElem? hi)).1
theorem Held.off {N : List Nat} {w : World} {l : List (Nat × Obj)} (h : Held N w l) (i : Nat) {b : Nat} {o : Obj} (hi : l[i]? = some (b, o)) : b ∉ N := (h _ (List.mem_of_getElem? hi)).2
theorem Held.sub {N : List Nat} {w : World} {l l' : List (Nat × Obj)} (h : Held N w l) (hs : ∀ q ∈ l', q ∈ l) : Held N w l' := fun q hq => h q (hs q hq)
theorem Held.cons {N : List Nat} {w : World} {l : List (Nat × Obj)} {b : Nat} {o : Obj} (h : w.heap[b]? = some o) (hb : b ∉ N) (hl : Held N w l) : Held N w ((b, o) :: l) := fun q hq => by
  rcases List.mem_cons.1 hq with rfl | hq
  · exact ⟨h, hb⟩
  · exact hl q hq
theorem Held.nil (N : List Nat) (w : World) : Held N w [] := fun q hq => by cases hq
end Go.Sy

namespace Go.Sy
open Go Go.Proofs Go.RowKit
theorem Hp.others {w0 : World} {M O : List Nat} {H : List (Nat × Obj)} {v v' : World} (h : Hp w0 M H v) (e : Ext O v v') (hO : ∀ x ∈ O, x ∉ H.map Prod.fst ∧ (x ∈ M ∨ w0.heap.size ≤ x)) : Hp w0 M H v' := by
  refine ⟨⟨e.os.trans h.ext.os, e.tape.trans h.ext.tape, e.output.trans h.ext.output, Nat.le_trans h.ext.size e.size, Nat.le_trans h.ext.dr e.dr, fun k hk hm => ?_⟩, fun q hq => ?_, h.nodup, h.mine⟩
  · refine (e.block k (Nat.lt_of_lt_of_le hk h.ext.size) fun hx => ?_).trans (h.ext.block k hk hm)
    rcases (hO k hx).2 with h1 | h1
    · exact hm h1
    · omega
  · exact e.getM (h.get q hq) fun hx => (hO _ hx).1 (List.mem_map.2 ⟨q, hq, rfl⟩)
theorem Hp.comp {w0 : World} {M : List Nat} {H H' : List (Nat × Obj)} {v v' : World} (h : Hp w0 M H v) (h' : Hp v (H.map Prod.fst) H' v') : Hp w0 M H' v' := by
  have := Hp.swap (X := H) (X' := H') (Z := []) (by rw [List.append_nil]; exact h) h'
  rwa [List.append_nil] at this
section
variable {P : Program} {Q : Exit → Act → World → Prop} {a : Act} {w w0 : World} {M : List Nat} {H : List (Nat × Obj)} {n : Nat} {ds : List Deferred} {L : List (Nat × Value)}
end
end Go.Sy

namespace Go.Sy
open Go Go.Proofs Go.RowKit
theorem Hp.over {u v v' : World} {M O : List Nat} {H H' : List (Nat × Obj)} (h : Hp u M H v) (h' : Hp v O H' v') (hO : ∀ x ∈ O, x ∈ M ∨ u.heap.size ≤ x) : Hp u M H' v' := by
  refine ⟨⟨h'.ext.os.trans h.ext.os, h'.ext.tape.trans h.ext.tape, h'.ext.output.trans h.ext.output, Nat.le_trans h.ext.size h'.ext.size, Nat.le_trans h.ext.dr h'.ext.dr, fun k hk hm => ?_⟩, h'.get, h'.nodup, fun q hq => ?_⟩
  · refine (h'.ext.block k (Nat.lt_of_lt_of_le hk h.ext.size) fun hx => ?_).trans (h.ext.block k hk hm)
    rcases hO k hx with h1 | h1
    · exact hm h1
    · omega
  · rcases h'.mine q hq with h1 | h1
    · exact .inl (Nat.le_trans h.ext.size h1)
    · exact (hO _ h1).symm
theorem Hp.own {u w : World} {M : List Nat} {H : List (Nat × Obj)} (h : Hp u M H w) : Hp w (H.map Prod.fst) H w :=
  ⟨.refl _ _, h.get, h.nodup, fun q hq => .inr (List.mem_map.2 ⟨q, hq, rfl⟩)⟩
theorem Ext.chain {O O' : List Nat} {v v1 v' : World} (h : Ext O v v1) (h' : Ext O' v1 v') (hO : ∀ x ∈ O', x ∈ O ∨ v.heap.size ≤ x) : Ext O v v' :=
  ⟨h'.os.trans h.os, h'.tape.trans h.tape, h'.output.trans h.output, Nat.le_trans h.size h'.size, Nat.le_trans h.dr h'.dr, fun k hk hm => (h'.block k (Nat.lt_of_lt_of_le hk h.size) fun hx => by
    rcases hO k hx with h1 | h1
    · exact hm h1
    · omega).trans (h.block k hk hm)⟩
structure SyN (u : World) (Mi N0 N : List Nat) (H : List (Nat × Obj)) (w : World) : Prop where
  hp : Hp u (Mi ++ N0) H w
  gr : Grows N0 N u
  off : ∀ x ∈ N, x ∉ H.map Prod.fst
  loc : ∀ x ∈ H.map Prod.fst, x ∈ Mi ∨ u.heap.size ≤ x
  lt : ∀ x ∈ N, x < w.heap.size
section
variable {u w w' : World} {Mi N0 N N' O : List Nat} {H H' : List (Nat × Obj)}
theorem SyN.init (h : Hp u Mi H u) (hm : ∀ x ∈ N0, x ∉ H.map Prod.fst) (hl : ∀ x ∈ N0, x < u.heap.size) (hH : ∀ x ∈ H.map Prod.fst, x ∈ Mi) : SyN u Mi N0 N0 H u :=
  ⟨⟨.refl _ _, h.get, h.nodup, fun q hq => (h.mine q hq).imp id fun hx => List.mem_append_left _ hx⟩, .refl _ _, hm, fun x hx => .inl (hH x hx), hl⟩
/-- What the iterator does by itself. -/
theorem SyN.step (h : SyN u Mi N0 N H w) (h' : Hp w O H' w') (hO : ∀ x ∈ O, x ∈ H.map Prod.fst ∨ w.heap.size ≤ x) : SyN u Mi N0 N H' w' := by
  have hs := h.hp.ext.size
  have key : ∀ x ∈ H'.map Prod.fst, x ∈ H.map Prod.fst ∨ w.heap.size ≤ x := fun x hx => by
    obtain ⟨q, hq, rfl⟩ := List.mem_map.1 hx
    rcases h'.mine q hq with h1 | h1
    · exact .inr h1
    · exact hO _ h1
  refine ⟨h.hp.over h' fun x hx => ?_, h.gr, fun x hx hx' => ?_, fun x hx => ?_, fun x hx => Nat.lt_of_lt_of_le (h.lt x hx) h'.ext.size⟩
  · rcases hO x hx with h1 | h1
    · exact (h.loc x h1).imp (fun h2 => List.mem_append_left _ h2) id
    · exact .inr (Nat.le_trans hs h1)
  · rcases key x hx' with h1 | h1
    · exact h.off x hx h1
    · have := h.lt x hx; omega
  · rcases key x hx with h1 | h1
    · exact h.loc x h1
    · exact .inr (Nat.le_trans hs h1)
/-- What the round does. -/
theorem SyN.yield (h : SyN u Mi N0 N H w) (e : Ext N w w') (g : Grows N N' w) (hl : ∀ x ∈ N', x < w'.heap.size) : SyN u Mi N0 N' H w' := by
  refine ⟨h.hp.others e fun x hx => ⟨h.off x hx, (h.gr x hx).imp (fun h2 => List.mem_append_right _ h2) id⟩, h.gr.trans g h.hp.ext.size, fun x hx hx' => ?_, h.loc, hl⟩
  rcases g x hx with h1 | h1
  · exact h.off x h1 hx'
  · obtain ⟨q, hq, rfl⟩ := List.mem_map.1 hx'
    have := (Array.getElem?_eq_some_iff.1 (h.hp.get q hq)).1
    omega
theorem SyN.less (h : SyN u Mi N0 N H w) (hs : H'.Sublist H) : SyN u Mi N0 N H' w :=
  ⟨h.hp.less hs, h.gr, fun x hx hx' => h.off x hx ((hs.map Prod.fst).subset hx'), fun x hx => h.loc x ((hs.map Prod.fst).subset hx), h.lt⟩
theorem SyN.perm (h : SyN u Mi N0 N H w) (hs : H.Perm H') : SyN u Mi N0 N H' w :=
  ⟨h.hp.perm hs, h.gr, fun x hx hx' => h.off x hx ((hs.map Prod.fst).mem_iff.2 hx'), fun x hx => h.loc x ((hs.map Prod.fst).mem_iff.2 hx), h.lt⟩
/-- What others do, off the round's blocks and off one's own. -/
theorem SyN.others (h : SyN u Mi N0 N H w) (e : Ext O w w') (hO : ∀ x ∈ O, x ∉ H.map Prod.fst ∧ u.heap.size ≤ x) : SyN u Mi N0 N H w' :=
  ⟨h.hp.others e fun x hx => ⟨(hO x hx).1, .inr (hO x hx).2⟩, h.gr, h.off, h.loc, fun x hx => Nat.lt_of_lt_of_le (h.lt x hx) e.size⟩
theorem SyN.add (h : SyN u Mi N0 N H w) {b : Nat} {o : Obj} (hb : w.heap[b]? = some o) (hn : b ∉ N) (hH : b ∉ H.map Prod.fst) (hu : u.heap.size ≤ b) : SyN u Mi N0 N ((b, o) :: H) w := by
  refine ⟨⟨h.hp.ext, fun q hq => ?_, ?_, fun q hq => ?_⟩, h.gr, fun x hx hx' => ?_, fun x hx => ?_, h.lt⟩
  · rcases List.mem_cons.1 hq with rfl | hq
    · exact hb
    · exact h.hp.get q hq
  · rw [List.map_cons, List.nodup_cons]; exact ⟨hH, h.hp.nodup⟩
  · rcases List.mem_cons.1 hq with rfl | hq
    · exact .inl hu
    · exact h.hp.mine q hq
  · rw [List.map_cons, List.mem_cons] at hx'
    rcases hx' with rfl | hx'
    · exact hn hx
    · exact h.off x hx hx'
  · rw [List.map_cons, List.mem_cons] at hx
    rcases hx with rfl | hx
    · exact .inr hu
    · exact h.loc x hx
theorem SyN.old (h : SyN u Mi N0 N H w) {b : Nat} {o : Obj} (hb : u.heap[b]? = some o) (hn : b ∉ Mi ++ N0) : w.heap[b]? = some o := h.hp.oldM hb hn
/-- Where a round ends. -/
theorem SyN.round {l D : Nat} {o o' : Obj} {F NJ : List Nat} (h : SyN u (l :: D :: F) NJ N ((l, o) :: (D, o') :: H) w) :
    Grows (F ++ NJ) (H.map Prod.fst ++ N) u ∧ Ext (l :: D :: (F ++ NJ)) u w ∧ w.heap[l]? = some o ∧ w.heap[D]? = some o' ∧ l ∉ H.map Prod.fst ++ N ∧ D ∉ H.map Prod.fst ++ N := by
  have hn := h.hp.nodup
  simp only [List.map_cons, List.nodup_cons, List.mem_cons, not_or] at hn
  refine ⟨fun x hx => ?_, h.hp.ext, h.hp.get _ (.head _), h.hp.get _ (.tail _ (.head _)), fun hx => ?_, fun hx => ?_⟩
  · rcases List.mem_append.1 hx with hx | hx
    · rcases h.loc x (.tail _ (.tail _ hx)) with h1 | h1
      · rcases List.mem_cons.1 h1 with h1 | h1
        · exact absurd (h1 ▸ hx) hn.1.2
        · rcases List.mem_cons.1 h1 with h1 | h1
          · exact absurd (h1 ▸ hx) hn.2.1
          · exact .inl (List.mem_append_left _ h1)
      · exact .inr h1
    · exact (h.gr x hx).imp (fun h1 => List.mem_append_right _ h1) id
  · rcases List.mem_append.1 hx with hx | hx
    · exact hn.1.2 hx
    · exact h.off _ hx (.head _)
  · rcases List.mem_append.1 hx with hx | hx
    · exact hn.2.1 hx
    · exact h.off _ hx (.tail _ (.head _))
end
end Go.Sy

namespace Go.Sy
open Go Go.Proofs Go.RowKit
section
variable {P : Program} {t : TypeId} {name : String} {f : FuncId}
variable {L : List (Nat × Value)} {dd : Option Tmp} {ty : TypeId} {pos : String} {af : Array Edge} {gd : Option (Nat × Bool)}
variable {r : Option Nat} {all : Array Oper} {Q : Exit → Act → World → Prop} {rest : List Oper} {a : Act} {w : World} {n : Nat} {ds : List Deferred} {d : Nat}
end
end Go.Sy

namespace Go.Sy
open Go Go.Proofs Go.RowKit
section
variable {P : Program} {fn : Func} {R : Value → World → Prop} {X : List PanicEntry → World → Prop} {n : Nat} {L : List (Nat × Value)} {a : Act} {w w0 : World} {M : List Nat} {H : List (Nat × Obj)} {Ds : List Nat}
end
end Go.Sy

namespace Go.Sy
open Go Go.Proofs
section
variable {P : Program} {C : World → Prop} {L : List (Nat × Value)} {dd : Option Tmp} {ty : TypeId} {pos : String} {af : Array Edge} {gd : Option (Nat × Bool)}
end
end Go.Sy

namespace Go.Sy
open Go Go.Proofs
set_option linter.unusedSectionVars false
variable {P : Program} {κ : Type} [DecidableEq κ] {enc : κ → Value} {ke : TypeId} {v0 : Value}
/-- A map that holds just the keys of a list, each with the same value. -/
structure SetV (enc : κ → Value) (v0 : Value) (S : List κ) (es : Array MapEntry) (c : Nat) : Prop where
  keys : es.toList.map (·.key) = S.map enc
  val : ∀ e ∈ es.toList, e.val = v0
  nd : S.Nodup
  born : (es.toList.map (·.born)).Nodup
  old : ∀ e ∈ es.toList, e.born < c
theorem SetV.nil (enc : κ → Value) (v0 : Value) : SetV enc v0 [] #[] 0 := ⟨rfl, fun e h => by simp at h, .nil, .nil, fun e h => by simp at h⟩
section
variable {r : Option Nat} {all : Array Oper} {Q : Exit → Act → World → Prop} {rest : List Oper} {a : Act} {w w0 : World} {M : List Nat} {H : List (Nat × Obj)} {L : List (Nat × Value)} {n : Nat} {ds : List Deferred} {d : Nat} {ty : TypeId} {pos : String} {af : Array Edge} {gd : Option (Nat × Bool)}
theorem map_one {α β : Type} {f : α → β} : ∀ {l : List α}, (l.map f).Nodup → ∀ {x y : α}, x ∈ l → y ∈ l → f x = f y → x = y
  | [], _, _, _, h, _, _ => by cases h
  | z :: l, h, x, y, hx, hy, e => by
    rw [List.map_cons, List.nodup_cons] at h
    rcases List.mem_cons.1 hx with hx | hx
    · rcases List.mem_cons.1 hy with hy | hy
      · rw [hx, hy]
      · exact absurd (show f z ∈ l.map f from List.mem_map.2 ⟨y, hy, by rw [← hx, e]⟩) h.1
    · rcases List.mem_cons.1 hy with hy | hy
      · exact absurd (show f z ∈ l.map f from List.mem_map.2 ⟨x, hx, by rw [← hy, e]⟩) h.1
      · exact map_one h.2 hx hy e
/-- How far a range over a map has come. -/
def RngAt (enc : κ → Value) (bm : Nat) (es : Array MapEntry) (c : Nat) (done : List κ) (o : Obj) : Prop :=
  ∃ (seen : Array Nat) (dl : List MapEntry), o = .mapIter (some bm) c seen c ∧ (∀ e ∈ dl, e ∈ es.toList) ∧ dl.map (·.key) = done.map enc ∧ seen.toList = dl.map (·.born)
end
end Go.Sy

namespace Go.Sy
open Go Go.Proofs
section
variable {P : Program} {C : World → Prop} {L : List (Nat × Value)} {dd : Option Tmp} {ty : TypeId} {pos : String} {af : Array Edge} {gd : Option (Nat × Bool)}
end
end Go.Sy

namespace Go.Sy
open Go Go.Proofs
set_option linter.unusedSectionVars false
variable {P : Program} {κ : Type} [DecidableEq κ] {enc : κ → Value} {ke : TypeId} {v0 : Value}
section
variable {r : Option Nat} {all : Array Oper} {Q : Exit → Act → World → Prop} {rest : List Oper} {a : Act} {w w0 : World} {M : List Nat} {H : List (Nat × Obj)} {L : List (Nat × Value)} {n : Nat} {ds : List Deferred} {d : Nat} {ty : TypeId} {pos : String} {af : Array Edge} {gd : Option (Nat × Bool)}
end
section
variable {C : World → Prop} {L : List (Nat × Value)} {dd : Option Tmp} {ty : TypeId} {pos : String} {af : Array Edge} {gd : Option (Nat × Bool)}
end
/-- How many keys are still to come. -/
def leftS (S done : List κ) : Nat := (S.filter fun x => decide (x ∉ done)).length
theorem leftS_le : ∀ (S done : List κ) (p : κ), leftS S (done ++ [p]) ≤ leftS S done
  | [], _, _ => Nat.le_refl _
  | x :: S, done, p => by
    have ih := leftS_le S done p
    unfold leftS at ih ⊢
    rw [List.filter_cons, List.filter_cons]
    by_cases h1 : x ∈ done
    · rw [if_neg (by simp [h1]), if_neg (by simp [h1])]; exact ih
    · rw [if_pos (c := decide (x ∉ done) = true) (by simp [h1])]
      split
      · rw [List.length_cons, List.length_cons]; omega
      · rw [List.length_cons]; omega
theorem leftS_lt : ∀ {S done : List κ} {p : κ}, p ∈ S → p ∉ done → leftS S (done ++ [p]) < leftS S done
  | [], _, _, h, _ => by cases h
  | x :: S, done, p, h, hn => by
    by_cases hx : x = p
    · subst hx
      have h2 := leftS_le S done x
      unfold leftS at h2 ⊢
      rw [List.filter_cons, List.filter_cons, if_pos (c := decide (x ∉ done) = true) (by simp [hn]), if_neg (by simp), List.length_cons]
      omega
    · have ih := leftS_lt (S := S) (done := done) (p := p) (by rcases List.mem_cons.1 h with h | h; exact absurd h.symm hx; exact h) hn
      unfold leftS at ih ⊢
      rw [List.filter_cons, List.filter_cons]
      by_cases h1 : x ∈ done
      · rw [if_neg (by simp [h1]), if_neg (by simp [h1])]; exact ih
      · rw [if_pos (c := decide (x ∉ done) = true) (by simp [h1]), if_pos (by simp [h1, hx]), List.length_cons, List.length_cons]
        omega
end Go.Sy

namespace Go.Sy
open Go Go.Proofs
theorem pick_mem {α : Type} {H : List α} {is : List Nat} {q : α} (h : q ∈ is.filterMap fun i => H[i]?) : ∃ i ∈ is, H[i]? = some q := List.mem_filterMap.1 h
theorem pick_nodup {H : List (Nat × Obj)} (hn : (H.map Prod.fst).Nodup) : ∀ {is : List Nat}, is.Nodup → ((is.filterMap fun i => H[i]?).map Prod.fst).Nodup
  | [], _ => .nil
  | i :: is, hd => by
    rw [List.nodup_cons] at hd
    have ih := pick_nodup hn hd.2
    rw [List.filterMap_cons]
    cases hi : H[i]? with
    | none => exact ih
    | some q =>
      show (q.1 :: _).Nodup
      rw [List.nodup_cons]
      refine ⟨fun h => ?_, ih⟩
      obtain ⟨q', hq', e⟩ := List.mem_map.1 h
      obtain ⟨j, hj, hjq⟩ := pick_mem hq'
      have e1 : (H.map Prod.fst)[i]? = some q.1 := by rw [List.getElem?_map, hi]; rfl
      have e2 : (H.map Prod.fst)[j]? = some q.1 := by rw [List.getElem?_map, hjq, ← e]; rfl
      have hil : i < (H.map Prod.fst).length := (List.getElem?_eq_some_iff.1 e1).1
      have := (List.getElem?_inj hil hn).1 (e1.trans e2.symm)
      exact hd.1 (this ▸ hj)
theorem Hp.pick {w0 w : World} {M : List Nat} {H : List (Nat × Obj)} (h : Hp w0 M H w) (is : List Nat) (hd : is.Nodup := by decide) : Hp w0 M (is.filterMap fun i => H[i]?) w :=
  ⟨h.ext, fun q hq => by obtain ⟨i, _, e⟩ := pick_mem hq; exact h.get q (List.mem_of_getElem? e), pick_nodup h.nodup hd, fun q hq => by obtain ⟨i, _, e⟩ := pick_mem hq; exact h.mine q (List.mem_of_getElem? e)⟩
/-- The contents of a block, by a name. -/
theorem Hp.name {w0 w : World} {M : List Nat} {A B : List (Nat × Obj)} {b : Nat} {o : Obj} (h : Hp w0 M (A ++ (b, o) :: B) w) : ∃ z, z = o ∧ Hp w0 M (A ++ (b, z) :: B) w := ⟨o, rfl, h⟩
/-- What blocks hold that the rounds of a range do not turn. -/
theorem Hp.held {u w : World} {H X : List (Nat × Obj)} {is : List Nat} (h : Hp u [] H w) (hX : X = is.filterMap fun i => H[i]?) (js : List Nat) (hj : ∀ j ∈ js, j ∉ is := by decide) : Held (X.map Prod.fst) w (js.filterMap fun j => H[j]?) := fun q hq => by
  obtain ⟨j, hjs, e⟩ := pick_mem hq
  refine ⟨h.get q (List.mem_of_getElem? e), fun hx => ?_⟩
  rw [hX] at hx
  obtain ⟨q', hq', e'⟩ := List.mem_map.1 hx
  obtain ⟨i, hi, ei⟩ := pick_mem hq'
  have e1 : (H.map Prod.fst)[j]? = some q.1 := by rw [List.getElem?_map, e]; rfl
  have e2 : (H.map Prod.fst)[i]? = some q.1 := by rw [List.getElem?_map, ei, ← e']; rfl
  have hil : j < (H.map Prod.fst).length := (List.getElem?_eq_some_iff.1 e1).1
  have := (List.getElem?_inj hil h.nodup).1 (e1.trans e2.symm)
  exact hj j hjs (this ▸ hi)
theorem Hp.fresh {u w : World} {H : List (Nat × Obj)} (h : Hp u [] H w) : ∀ x ∈ H.map Prod.fst, u.heap.size ≤ x := fun x hx => by
  obtain ⟨q, hq, rfl⟩ := List.mem_map.1 hx
  rcases h.mine q hq with h1 | h1
  · exact h1
  · cases h1
theorem Held.old {u w : World} {H l : List (Nat × Obj)} {b : Nat} {o : Obj} (h : Hp u [] H w) (hb : u.heap[b]? = some o) (hl : Held (H.map Prod.fst) w l) : Held (H.map Prod.fst) w ((b, o) :: l) :=
  Held.cons (h.old hb) (fun hx => by
    have := h.fresh _ hx
    have := (Array.getElem?_eq_some_iff.1 hb).1
    omega) hl
theorem Held.app {N : List Nat} {w : World} {l m : List (Nat × Obj)} (h1 : Held N w l) (h2 : Held N w m) : Held N w (l ++ m) := fun q hq => (List.mem_append.1 hq).elim (h1 q) (h2 q)
end Go.Sy

namespace Go.Sy
open Go Go.Proofs
section
variable {P : Program} {C : World → Prop} {L : List (Nat × Value)} {dd : Option Tmp} {ty : TypeId} {pos : String} {af : Array Edge} {gd : Option (Nat × Bool)}
theorem yv_sliceArr {t e : TypeId} {m sz : Nat} {x : Operand} {b : Nat} (ht : arrayElem P t = some (m, e, sz)) (hx : ev L x = some (ptr b 0)) : Yv P C L ⟨dd, .slice t x none none none, ty, pos, af, gd⟩ (.slice (some ⟨b, 0, none⟩) m m) := fun ρ hρ w _ => by
  unfold arrayElem at ht
  split at ht
  · rename_i n' e' he
    cases hin : P.info? e' with
    | none => rw [hin] at ht; simp at ht
    | some inf =>
      rw [hin] at ht; simp at ht
      obtain ⟨rfl, rfl, rfl⟩ := ht
      have h : (⟨b, 0, none⟩ : Addr).add 0 = ⟨b, 0, none⟩ := rfl
      by_cases h0 : n' = 0
      · simp [execOp, hρ _ _ hx, Instr.sliceAt, Instr.sureAddr, run_underlying he, Instr.sliceBounds, sizeOf, typeInfo, hin, h0]
      · simp [execOp, hρ _ _ hx, Instr.sliceAt, Instr.sureAddr, run_underlying he, Instr.sliceBounds, sizeOf, typeInfo, hin, h0, h]
  · simp at ht
end
end Go.Sy

namespace Go.Sy
open Go Go.Proofs
section
variable {P : Program}
end
end Go.Sy

namespace Go.Sy
open Go Go.Proofs
end Go.Sy

namespace Go.Sy
open Go Go.Proofs Go.ChangeShapes Go.WideShapes Go.Deep
section
variable {P : Program} {H : Type} {enc : TypeId × Value → H} {W : World} {base : Nat} {spare : Nat → Bool} {held : Bool} {k : IntKind}
end
end Go.Sy

namespace Go.Sy
open Go Go.Proofs Go.ChangeShapes Go.WideShapes Go.Deep
section
variable {P : Program} {H : Type} {enc : TypeId × Value → H} {W : World} {base : Nat} {spare : Nat → Bool} {held : Bool} {k : IntKind}
end
end Go.Sy

namespace Go.Sy
open Go Go.Proofs Go.RowKit
section
variable {P : Program} {fn : Func} {R : Value → World → Prop} {n : Nat} {L : List (Nat × Value)} {a : Act} {w w0 : World} {M : List Nat}
/-- Behind the last deferred call, which was handed something. -/
theorem ret_da {f : FuncId} {args : Array Value} {Ds : List Nat} {H : List (Nat × Obj)} (hf : Fr n (mkd Ds ++ [⟨.fn (.func f) #[], args⟩]) L a) (hh : Hp w0 M (dls Ds ++ H) w) (hE : Enters P f)
    (hc : ∀ w', CallsDIn (FR none) 0 P f args .returning w' (fun e u' w'' => (∃ v, e = .returned v) ∧ u' = .returning ∧ Ext [] w' w''))
    (k : ∀ w', Hp w0 M H w' → ∃ vs, ResAt P L w' fn.results.toList vs ∧ R (tup vs) w') : bodyPostM (FR none) 0 P fn (Ret R) .ret a w := by
  show LeavesInM (FR none) 0 P fn a.tmps (Ret R) a.defers .returning w
  rw [hf.defers]
  refine leaves_marksU (by simp) Ds H w hh fun w' hw' => ?_
  refine leaves_call (args := args) (by simp) hE ?_
  rw [Array.append_empty]
  refine (hc w').mono fun e u' w'' he => ?_
  obtain ⟨⟨v, rfl⟩, rfl, hx⟩ := he
  obtain ⟨vs, h1, h2⟩ := k w'' (hw'.more hx)
  have hf0 : Fr n [] L { a with defers := [] } := ⟨hf.size, rfl, hf.get⟩
  exact ⟨v, rfl, _, run_resultsC (a := { a with defers := [] }) hf0 h1, h2⟩
theorem pan_da {f : FuncId} {args : Array Value} {Ds : List Nat} {H : List (Nat × Obj)} {v : Value} {R2 : World → World → Prop} (hf : Fr n (mkd Ds ++ [⟨.fn (.func f) #[], args⟩]) L a) (hh : Hp w0 M (dls Ds ++ H) w) (hE : Enters P f)
    (hc : ∀ w', Hp w0 M H w' → CallsDIn (FR none) 0 P f args (.panicking [{ v := v, recovered := false }]) w' (fun e u' w'' => (∃ v, e = .returned v) ∧ u' = .panicking [{ v := v, recovered := true }] ∧ R2 w' w''))
    (k : ∀ w' w'', Hp w0 M H w' → R2 w' w'' → ∃ vs, ResAt P L w'' fn.results.toList vs ∧ R (tup vs) w'') : bodyPostM (FR none) 0 P fn (Ret R) (.panic [{ v := v, recovered := false }]) a w := by
  show LeavesInM (FR none) 0 P fn a.tmps (Ret R) a.defers (.panicking _) w
  rw [hf.defers]
  refine leaves_marksU (by simp) Ds H w hh fun w' hw' => ?_
  refine leaves_call (args := args) (by simp) hE ?_
  rw [Array.append_empty]
  refine (hc w' hw').mono fun e u' w'' he => ?_
  obtain ⟨⟨v', rfl⟩, rfl, hx⟩ := he
  obtain ⟨vs, h1, h2⟩ := k w' w'' hw' hx
  have hf0 : Fr n [] L { a with defers := [] } := ⟨hf.size, rfl, hf.get⟩
  exact ⟨v', rfl, _, run_resultsC (a := { a with defers := [] }) hf0 h1, h2⟩
end
section
variable {P : Program} {C : World → Prop} {L : List (Nat × Value)} {dd : Option Tmp} {ty : TypeId} {pos : String} {af : Array Edge} {gd : Option (Nat × Bool)}
theorem yv_neqNil {t t' : TypeId} {x y : Operand} (ht : ifaceB P t = true) (hx : ev L x = some .nilIface) (hy : y = .const .nilIface) :
    Yv P C L ⟨dd, .binOp .neq t x y t', ty, pos, af, gd⟩ (.bool false) := fun ρ hρ w _ => by
  subst hy
  have h0 : ρ (.const .nilIface) = .nilIface := hρ _ _ rfl
  have e : (binOp .neq t .nilIface .nilIface).run P w = .ok (.bool false) w := by
    show (do pure (.bool (!(← Op.equal t .nilIface .nilIface))) : Sem Value).run P w = _
    rw [Sem.run_bind, show (Op.equal t .nilIface .nilIface).run P w = .ok true w from (run_eqNil 9999 ht w).1]; rfl
  have g : (eqGuard .neq t x (.const .nilIface) .nilIface .nilIface).run P w = .ok () w := by simp [eqGuard]
  simp only [execOp, hρ _ _ hx, h0, Sem.run_bind, g, Result.andThen_ok, e, Sem.run_pure]
theorem yv_neqSome {t t' tx : TypeId} {v : Value} {x y : Operand} (ht : ifaceB P t = true) (hx : ev L x = some (.iface tx v)) (hy : y = .const .nilIface) :
    Yv P C L ⟨dd, .binOp .neq t x y t', ty, pos, af, gd⟩ (.bool true) := fun ρ hρ w _ => by
  subst hy
  have h0 : ρ (.const .nilIface) = .nilIface := hρ _ _ rfl
  have e : (binOp .neq t (.iface tx v) .nilIface).run P w = .ok (.bool true) w := by
    show (do pure (.bool (!(← Op.equal t (.iface tx v) .nilIface))) : Sem Value).run P w = _
    rw [Sem.run_bind, show (Op.equal t (.iface tx v) .nilIface).run P w = .ok false w from (run_eqNil 9999 ht w).2 tx v]; rfl
  have g : (eqGuard .neq t x (.const .nilIface) (.iface tx v) .nilIface).run P w = .ok () w := by simp [eqGuard]
  simp only [execOp, hρ _ _ hx, h0, Sem.run_bind, g, Result.andThen_ok, e, Sem.run_pure]
end
end Go.Sy

namespace Go.Sy
open Go Go.Proofs Go.RowKit
/-- What the first entry with this key holds. -/
def askL (p : Int) : List MapEntry → Option Value
  | [] => none
  | e :: l => if (match e.key with | .int _ n => n == p | _ => false) = true then some e.val else askL p l
structure MapI (k : IntKind) (m : Int → Option Value) (es : Array MapEntry) : Prop where
  keys : ∀ e ∈ es.toList, ∃ n, e.key = .int k n
  get : ∀ p, askL p es.toList = m p
theorem MapI.nil (k : IntKind) : MapI k (fun _ => none) #[] := ⟨fun e h => by simp at h, fun _ => rfl⟩
theorem ask_hd {k : IntKind} {n p : Int} {e : MapEntry} {l : List MapEntry} (h : e.key = .int k n) : askL p (e :: l) = if n = p then some e.val else askL p l := by
  show (if (match e.key with | .int _ n => n == p | _ => false) = true then some e.val else askL p l) = _
  rw [h]
  by_cases hn : n = p
  · simp [hn]
  · simp [hn]
theorem find_ask {k : IntKind} {p : Int} : ∀ (l : List MapEntry) (i : Nat), (∀ e ∈ l, ∃ n, e.key = .int k n) →
    (∃ j v e, askL p l = some v ∧ Instr.findNow (.int k) (.int k p) l i = some (some (i + j, v)) ∧ l[j]? = some e ∧ e.key = .int k p ∧ ∀ (v' : Value) (q : Int), askL q (l.modify j fun e => { e with key := .int k p, val := v' }) = if q = p then some v' else askL q l) ∨
    (askL p l = none ∧ Instr.findNow (.int k) (.int k p) l i = some none)
  | [], i, _ => .inr ⟨rfl, rfl⟩
  | e :: l, i, h => by
    obtain ⟨n, hn⟩ := h e (.head _)
    by_cases hnp : n = p
    · subst hnp
      refine .inl ⟨0, e.val, e, by rw [ask_hd hn, if_pos rfl], by simp [Instr.findNow, Instr.sameNow, hn], rfl, hn, fun v' q => ?_⟩
      show askL q (_ :: l) = _
      rw [ask_hd (k := k) (n := n) rfl, ask_hd hn]
      by_cases h1 : q = n
      · subst h1; rw [if_pos rfl, if_pos rfl]
      · rw [if_neg (Ne.symm h1), if_neg h1, if_neg (Ne.symm h1)]
    · have ih := find_ask (k := k) (p := p) l (i + 1) (fun e he => h e (.tail _ he))
      have e1 : (p == n) = false := by simp; omega
      rcases ih with ⟨j, v, e', h1, h2, h3, h4, h5⟩ | ⟨h1, h2⟩
      · refine .inl ⟨j + 1, v, e', by rw [ask_hd hn, if_neg hnp, h1], by simp [Instr.findNow, Instr.sameNow, hn, e1, h2]; omega, by simpa using h3, h4, fun v' q => ?_⟩
        show askL q (e :: l.modify j _) = _
        rw [ask_hd hn, ask_hd hn, h5]
        by_cases h6 : n = q
        · subst h6; rw [if_pos rfl, if_neg hnp, if_pos rfl]
        · rw [if_neg h6, if_neg h6]
      · exact .inr ⟨by rw [ask_hd hn, if_neg hnp, h1], by simp [Instr.findNow, Instr.sameNow, hn, e1, h2]⟩
section
variable {P : Program} {C : World → Prop} {L : List (Nat × Value)} {dd : Option Tmp} {ty : TypeId} {pos : String} {af : Array Edge} {gd : Option (Nat × Bool)}
theorem yv_getI {t ke el : TypeId} {k : IntKind} {m : Int → Option Value} {x y : Operand} {bm c : Nat} {es : Array MapEntry} {p : Int} {z : Value} (ht : mapTypes P t = some (ke, el, k)) (hz : zeroOf P el = some z) (hx : ev L x = some (.map (some bm))) (hy : ev L y = some (.int k p))
    (hb : ∀ w, C w → w.heap[bm]? = some (.map es c)) (hm : MapI k m es) :
    Yv P C L ⟨dd, .lookup t x y false, ty, pos, af, gd⟩ ((m p).getD z) := fun ρ hρ w hw => by
  obtain ⟨h1, h2⟩ := mapTypes_eq ht
  have hg : (getObj bm).run P w = .ok (.map es c) w := by simp [getObj, Sem.run, hb w hw]
  have hc := run_checkKey_int' (P := P) (w := w) (b := es.isEmpty) (p := p) h2
  rw [← hm.get p]
  rcases find_ask (k := k) (p := p) es.toList 0 hm.keys with ⟨j, v, e, a1, a2, _⟩ | ⟨a1, a2⟩
  · simp [execOp, hρ _ _ hx, hρ _ _ hy, Instr.lookup, run_underlying h1, hg, hc, Instr.findKey, run_underlying h2, a2, a1]
  · simp [execOp, hρ _ _ hx, hρ _ _ hy, Instr.lookup, run_underlying h1, hg, hc, Instr.findKey, run_underlying h2, a2, a1, run_zero hz]
theorem yv_getI2 {t ke el : TypeId} {k : IntKind} {m : Int → Option Value} {x y : Operand} {bm c : Nat} {es : Array MapEntry} {p : Int} {z : Value} (ht : mapTypes P t = some (ke, el, k)) (hz : zeroOf P el = some z) (hx : ev L x = some (.map (some bm))) (hy : ev L y = some (.int k p))
    (hb : ∀ w, C w → w.heap[bm]? = some (.map es c)) (hm : MapI k m es) :
    Yv P C L ⟨dd, .lookup t x y true, ty, pos, af, gd⟩ (.tuple #[(m p).getD z, .bool (m p).isSome]) := fun ρ hρ w hw => by
  obtain ⟨h1, h2⟩ := mapTypes_eq ht
  have hg : (getObj bm).run P w = .ok (.map es c) w := by simp [getObj, Sem.run, hb w hw]
  have hc := run_checkKey_int' (P := P) (w := w) (b := es.isEmpty) (p := p) h2
  rw [← hm.get p]
  rcases find_ask (k := k) (p := p) es.toList 0 hm.keys with ⟨j, v, e, a1, a2, _⟩ | ⟨a1, a2⟩
  · simp [execOp, hρ _ _ hx, hρ _ _ hy, Instr.lookup, run_underlying h1, hg, hc, Instr.findKey, run_underlying h2, a2, a1]
  · simp [execOp, hρ _ _ hx, hρ _ _ hy, Instr.lookup, run_underlying h1, hg, hc, Instr.findKey, run_underlying h2, a2, a1, run_zero hz]
end
section
variable {P : Program} {r : Option Nat} {all : Array Oper} {Q : Exit → Act → World → Prop} {rest : List Oper} {a : Act} {w w0 : World} {M : List Nat} {H : List (Nat × Obj)} {n : Nat} {ds : List Deferred} {L : List (Nat × Value)} {v : Value} {d : Nat}
  {ty : TypeId} {pos : String} {af : Array Edge} {gd : Option (Nat × Bool)}
end
end Go.Sy

namespace Go.Sy
open Go Go.Proofs Go.RowKit
def fieldS (P : Program) (t : TypeId) (f : Nat) : Option Nat := match P.underlying t with
  | some (.struct fs) => match fs[f]? with
    | some fl => if scalB P fl.type = true then some fl.offset else none
    | none => none
  | _ => none
def fieldG (P : Program) (t : TypeId) (f : Nat) : Option (Nat × Nat) := match P.underlying t with
  | some (.struct fs) => match fs[f]? with
    | some fl => match aggB P fl.type with
      | some k => some (fl.offset, k)
      | none => none
    | none => none
  | _ => none
section
variable {P : Program} {C : World → Prop} {L : List (Nat × Value)} {dd : Option Tmp} {ty : TypeId} {pos : String} {af : Array Edge} {gd : Option (Nat × Bool)}
theorem yv_fieldS {t : TypeId} {x : Operand} {f k : Nat} {cs : Array Value} {v : Value} (ht : fieldS P t f = some k) (hx : ev L x = some (.agg cs)) (hv : cs[k]? = some v) : Yv P C L ⟨dd, .field t x f, ty, pos, af, gd⟩ v := by
  unfold fieldS at ht
  split at ht
  · rename_i fs hfs
    split at ht
    · rename_i fl hfl
      split at ht
      · rename_i hs
        cases ht
        exact yv_field hfs hfl hs hx hv
      · cases ht
    · cases ht
  · cases ht
theorem yv_fieldG {t : TypeId} {x : Operand} {f k n : Nat} {cs v : Array Value} (ht : fieldG P t f = some (k, n)) (hx : ev L x = some (.agg cs)) (hv : cs.extract k (k + n) = v) : Yv P C L ⟨dd, .field t x f, ty, pos, af, gd⟩ (.agg v) := by
  unfold fieldG at ht
  split at ht
  · rename_i fs hfs
    split at ht
    · rename_i fl hfl
      split at ht
      · rename_i k' hs
        cases ht
        exact yv_fields hfs hfl hs hx hv
      · cases ht
    · cases ht
  · cases ht
end
end Go.Sy

namespace Go.Sy
open Go Go.Proofs Go.Sort
section
variable {α : Type} [Inhabited α] {enc : α → Value}
end
end Go.Sy

namespace Go.Sy
open Go Go.Proofs Go.RowKit
section
variable {P : Program} {C : World → Prop} {L : List (Nat × Value)} {dd : Option Tmp} {ty : TypeId} {pos : String} {af : Array Edge} {gd : Option (Nat × Bool)}
end
section
variable {P : Program} {Q : Exit → Act → World → Prop} {a : Act} {w : World} {n : Nat} {ds : List Deferred} {L : List (Nat × Value)}
end
section
variable {P : Program} {Q : Exit → Act → World → Prop} {a : Act} {w w0 : World} {M : List Nat} {H : List (Nat × Obj)} {n : Nat} {ds : List Deferred} {L : List (Nat × Value)}
end
end Go.Sy

namespace Go.Sy
open Go Go.Proofs Go.RowKit
section
variable {P : Program} {Q : Exit → Act → World → Prop} {a : Act} {w : World} {n : Nat} {ds : List Deferred} {L : List (Nat × Value)}
end
section
variable {P : Program} {Q : Exit → Act → World → Prop} {a : Act} {w w0 : World} {M : List Nat} {H : List (Nat × Obj)} {n : Nat} {ds : List Deferred} {L : List (Nat × Value)}
end
end Go.Sy

namespace Go.Sy
open Go Go.Proofs Go.RowKit
/-- The function that a method of a type of structs is. -/
def methS (P : Program) (t : TypeId) (name : String) : Option FuncId := match P.info? t, P.underlying t with
  | some ti, some (.struct _) => match ti.methods.find? (·.name == name) with
    | some m => if m.path.isEmpty = true then match m.func with
      | some (f, false) => some f
      | _ => none else none
    | none => none
  | _, _ => none
section
variable {P : Program} {t : TypeId} {name : String} {f : FuncId}
theorem run_methodS (h : methS P t name = some f) (fuel : Nat) (v : Value) (w : World) : (method (fuel + 1) t v name).run P w = .ok (f, v) w := by
  unfold methS at h
  split at h
  · rename_i ti e hi hu
    split at h
    · rename_i m hm
      split at h
      · rename_i hp
        split at h
        · rename_i f' hf'
          cases h
          have hp' : m.path.toList = [] := by simpa using hp
          simp [method, run_typeInfo w hi, hm, hp', follow, hf', receiverAt, run_underlying hu, Place.get]
        · cases h
      · cases h
    · cases h
  · cases h
variable {L : List (Nat × Value)} {dd : Option Tmp} {ty : TypeId} {pos : String} {af : Array Edge} {gd : Option (Nat × Bool)}
theorem run_invokeS {ρ : Operand → Value} {rc : Operand} {args : List Operand} {ats : Array TypeId} {v : Value} {vs : List Value} {w : World} (hm : methS P t name = some f) (hρ : Agree L ρ) (hE : Enters P f)
    (hr : ev L rc = some (.iface t v)) (hargs : evs L args = some vs) : (execOp ρ ⟨dd, .call ⟨.invoke rc name, args.toArray, ats⟩, ty, pos, af, gd⟩).run P w = .ok (.enter f (#[v] ++ vs.toArray)) w := by
  obtain ⟨n, hn⟩ : ∃ n, P.types.size + Made.depth = n + 1 := ⟨P.types.size + Made.depth - 1, by
    have : 0 < Made.depth := by decide
    omega⟩
  have h1 := run_methodS hm n v w
  have hev := evs_map hρ _ _ hargs
  have hz : (#[Value.iface t v] ++ vs.toArray).extract 1 (1 + vs.length) = vs.toArray := by
    apply Array.ext'
    simp
  simp [execOp, resolve, invoke, hρ _ _ hr, hev, callMethod, hn, h1, hE _ w, hz]
variable {r : Option Nat} {all : Array Oper} {Q : Exit → Act → World → Prop} {rest : List Oper} {a : Act} {w : World} {n : Nat} {ds : List Deferred} {d : Nat}
theorem o_invokeS {rc : Operand} {args : List Operand} {ats : Array TypeId} {v : Value} {vs : List Value} {av : Array Value} {R : Value → World → Prop} (hf : Fr n ds L a) (hm : methS P t name = some f) (hE : Enters P f)
    (hr : ev L rc = some (.iface t v)) (hargs : evs L args = some vs) (hav : #[v] ++ vs.toArray = av) (hc : Calls P f av w (Ret R)) (k : ∀ (v : Value) (a : Act) (w : World), R v w → Fr n ds ((d, v) :: L) a → OpsW P r all Q rest a w)
    (hg : GOn all L ⟨some d, .call ⟨.invoke rc name, args.toArray, ats⟩, ty, pos, af, gd⟩ := by first | exact .inl rfl | exact gon' rfl rfl rfl) (hn : Nat.blt d n = true := by rfl) :
    OpsW P r all Q (⟨some d, .call ⟨.invoke rc name, args.toArray, ats⟩, ty, pos, af, gd⟩ :: rest) a w := by
  subst hav
  refine opsW_enter (hg.wanted hf) rfl (run_invokeS hm hf.agree hE hr hargs) ((callsIn_wide (n := 0)).2 hc) fun v w'' hR => ?_
  exact k v _ w'' hR (hf.put (blt_lt hn) v)
end
end Go.Sy

namespace Go.Sy
open Go Go.Proofs Go.RowKit
inductive OS where
  | fin
  | p (k : Nat) (t : OS)
  | q (c k : Nat) (t : OS)
  | e1 (k : Nat) (t : OS)
  | s (A : List Nat) (t : OS)
  | s2 (A E : List Nat) (k : Nat) (t : OS)
section
variable {P : Program} {r : Option Nat} {ops : Array Oper} {md : Region.Mode} {Cs : Cls} {Q : Act → World → Prop}
end
/-- An operation that lays one block, whatever the world. -/
def Lays (P : Program) (L : List (Nat × Value)) (o : Oper) (v : Nat → Value) (obj : Obj) : Prop :=
  ∀ ρ, Agree L ρ → ∀ w : World, (execOp ρ o).run P w = .ok (.value (v w.heap.size)) { w with heap := w.heap.push obj }
structure Lay where
  k : Nat
  d : Nat
  v : Nat → Value
  obj : Obj
section
variable {P : Program} {r : Option Nat} {ops : Array Oper} {Cs : Cls} {Q : Act → World → Prop} {k n c : Nat} {t : OS} {ds : List Deferred} {L : List (Nat × Value)} {a : Act} {w w0 : World} {M : List Nat} {H : List (Nat × Obj)} {o : Oper} {d : Nat} {v : Value} {p : (World → Prop) × List Nat}
theorem lk_skip {f : Lay → Nat × Value} {t : Nat} : ∀ {D : List Lay}, (∀ s ∈ D, (f s).1 ≠ t) → lk (D.map f ++ L) t = lk L t
  | [], _ => rfl
  | s :: D, h => by
    have h1 := h s (.head _)
    show lk ((f s) :: (D.map f ++ L)) t = _
    rcases hfs : f s with ⟨x, y⟩
    rw [hfs] at h1
    rw [lk, beq_ne h1, cond_false]
    exact lk_skip fun s' hs => h s' (.tail _ hs)
theorem Ext.push (w : World) (o : Obj) : Ext [] w { w with heap := w.heap.push o } := ((Hp.init w []).alloc o).ext
structure LayOk (P : Program) (ops : Array Oper) (n : Nat) (L : List (Nat × Value)) (S : List Lay) (s : Lay) : Prop where
  ok : ∃ o Lo, ops[s.k]? = some o ∧ o.dst = some s.d ∧ o.guard = none ∧ isDefer o.op = false ∧ Nat.blt s.d n = true ∧ Lays P Lo o s.v s.obj ∧ AllIn L Lo ∧ ∀ x ∈ S, ∀ q ∈ Lo, x.d ≠ q.1
end
end Go.Sy

namespace Go.Sy
open Go Go.Proofs Go.RowKit
theorem AtE.more {u w w' : World} {M : List Nat} {H : List (Nat × Obj)} (h : AtE u M H w) (e : Ext [] w w') : AtE u M H w' := ⟨h.1.trans (e.mono (by simp)), fun p hp => e.get (h.2 p hp)⟩
section
variable {P : Program} {L : List (Nat × Value)} {d : Nat} {v : Value} {ty : TypeId} {pos : String} {af : Array Edge} {gd : Option (Nat × Bool)}
end
end Go.Sy

namespace Go.Sy
open Go Go.Proofs Go.RowKit
structure DOp where
  d : Nat
  V : (Nat → Nat) → Value
  O : (Nat → Nat) → Option Obj
  E : List Nat
  F : List Nat
  Lz : List (Nat × Value)
def dLo (X : Nat → DOp) (i : Nat) (β : Nat → Nat) : List (Nat × Value) := ((X i).E.map fun j => ((X j).d, (X j).V β)) ++ (X i).Lz
def dHs (X : Nat → DOp) (β : Nat → Nat) (D : List Nat) : List (Nat × Obj) := D.filterMap fun j => ((X j).O β).map fun o => (β j, o)
def dFr (X : Nat → DOp) (β : Nat → Nat) (D : List Nat) : List (Nat × Value) := D.map fun j => ((X j).d, (X j).V β)
/-- How an operation of the kind runs. -/
def DRun (P : Program) (C : World → Prop) (X : Nat → DOp) (i : Nat) (o : Oper) : Prop :=
  ∀ (β : Nat → Nat) (ρ : Operand → Value) (w : World), Agree (dLo X i β) ρ → C w → β i = w.heap.size →
    (∃ obj, (X i).O β = some obj ∧ (execOp ρ o).run P w = .ok (.value ((X i).V β)) { w with heap := w.heap.push obj }) ∨
    ((X i).O β = none ∧ (execOp ρ o).run P w = .ok (.value ((X i).V β)) w) ∨
    ((X i).O β = none ∧ ∃ f args, (execOp ρ o).run P w = .ok (.enter f args) w ∧ Calls P f args w (Ret fun v w' => v = (X i).V β ∧ Ext [] w w'))
structure DOk (P : Program) (ops : Array Oper) (n : Nat) (C : World → Prop) (X : Nat → DOp) (L0 : List (Nat × Value)) (A i : Nat) : Prop where
  ok : ∃ o, ops[i]? = some o ∧ o.dst = some (X i).d ∧ o.guard = none ∧ isDefer o.op = false ∧ Nat.blt (X i).d n = true ∧ ((X i).E.all fun j => o.after.any fun e => Nat.beq e.on j && Region.binds .any e) = true ∧ DRun P C X i o
  f : ((X i).F.all fun x => Nat.beq x i || (X i).E.any fun j => (X j).F.contains x) = true
  loc : ∀ β β' : Nat → Nat, (∀ x ∈ (X i).F, β x = β' x) → (X i).V β = (X i).V β' ∧ (X i).O β = (X i).O β'
  lz : AllIn L0 (X i).Lz
  lx : ((List.range A).all fun j => (X i).Lz.all fun q => !Nat.beq (X j).d q.1) = true
section
variable {P : Program} {r : Option Nat} {ops : Array Oper} {n : Nat} {ds : List Deferred} {L L0 : List (Nat × Value)} {a : Act} {w w0 : World} {M : List Nat} {H0 : List (Nat × Obj)} {C : World → Prop} {X : Nat → DOp} {A i : Nat} {o : Oper}
structure DZ (w0 : World) (M : List Nat) (n : Nat) (ds : List Deferred) (X : Nat → DOp) (L0 : List (Nat × Value)) (H0 : List (Nat × Obj)) (D : List Nat) (β : Nat → Nat) (a : Act) (w : World) : Prop where
  c : ∀ j ∈ D, ∀ x ∈ (X j).F, x ∈ D
  f : Fr n ds (dFr X β D ++ L0) a
  h : Hp w0 M (dHs X β D ++ H0) w
end
end Go.Sy

namespace Go.Sy
open Go Go.Proofs Go.RowKit
section
variable {P : Program} {r : Option Nat} {Q : Exit → Act → World → Prop} {n : Nat} {ds : List Deferred} {L : List (Nat × Value)} {a : Act} {w : World}
end
end Go.Sy

namespace Go.Sy
open Go Go.Proofs Go.RowKit
section
variable {P : Program} {fn : Func} {R : Value → World → Prop} {n : Nat} {L : List (Nat × Value)} {a : Act} {w w0 : World} {M : List Nat}
end
end Go.Sy

namespace Go.Sy
open Go Go.Proofs Go.RowKit
section
variable {md : Region.Mode} {ops : Array Oper} {lates : List (List Nat)} {f k k2 k3 c : Nat} {t t2 t3 : OC} {L L' L2 L3 : Array Bool}
end
end Go.Sy

