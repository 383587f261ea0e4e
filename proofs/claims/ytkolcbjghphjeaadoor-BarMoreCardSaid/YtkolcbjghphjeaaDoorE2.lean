/- The engine: memory, calls, control. -/
import Derived.Test.YtkolcbjghphjeaaDoorE1
namespace Go.Sy
open Go Go.Proofs Go.RowKit

/-! ### Types -/
def scalB (P : Program) (t : TypeId) : Bool :=
  match P.underlying t with
  | some (.struct _) | some (.array _ _) | none => false
  | some _ => true
def aggB (P : Program) (t : TypeId) : Option Nat :=
  match P.underlying t with
  | some (.struct _) | some (.array _ _) => (P.info? t).map (·.size)
  | _ => none
def fieldOff (P : Program) (t : TypeId) (f : Nat) : Option Nat :=
  match P.underlying t with
  | some (.struct fs) => match fs[f]? with
    | some fl => match P.info? fl.type with
      | some i => if i.size = 0 then none else some fl.offset
      | none => none
    | none => none
  | _ => none
def sliceElem (P : Program) (t : TypeId) : Option (TypeId × Nat) :=
  match P.underlying t with
  | some (.slice e) => (P.info? e).map fun i => (e, i.size)
  | _ => none
def arrayElem (P : Program) (t : TypeId) : Option (Nat × TypeId × Nat) :=
  match P.underlying t with
  | some (.array n e) => (P.info? e).map fun i => (n, e, i.size)
  | _ => none
def zeroOf (P : Program) (t : TypeId) : Option Value := (P.info? t).bind (·.zero)

section
variable {P : Program} {w : World} {t : TypeId}
theorem run_isAgg_scal (h : scalB P t = true) : (isAgg t).run P w = .ok false w := by
  unfold scalB at h
  cases hd : P.underlying t with
  | none => rw [hd] at h; simp at h
  | some d => cases d <;> simp_all [isAgg, run_underlying hd]
theorem run_isAgg_agg {k : Nat} (h : aggB P t = some k) : (isAgg t).run P w = .ok true w ∧ (sizeOf t).run P w = .ok k w := by
  unfold aggB at h
  cases hd : P.underlying t with
  | none => rw [hd] at h; simp at h
  | some d => cases d <;> simp_all [isAgg, run_underlying hd, sizeOf, typeInfo] <;> (obtain ⟨i, h1, h2⟩ := h; simp [h1, h2])
theorem run_zero {v : Value} (h : zeroOf P t = some v) : (zeroValue t).run P w = .ok v w := by
  unfold zeroOf at h
  cases hi : P.info? t with
  | none => rw [hi] at h; simp at h
  | some i => rw [hi] at h; simp at h; simp [zeroValue, typeInfo, hi, h]
end

def cellsAt (c : Array Value) : Nat → Nat → Option (List Value)
  | _, 0 => some []
  | off, k + 1 => match c[off]? with
    | some v => match cellsAt c (off + 1) k with
      | some vs => some (v :: vs)
      | none => none
    | none => none

theorem cellsAt_get {c : Array Value} : ∀ (k off : Nat) (vs : List Value), cellsAt c off k = some vs → vs.length = k ∧ ∀ j v, vs[j]? = some v → c[off + j]? = some v
  | 0, off, vs, h => by simp [cellsAt] at h; subst h; simp
  | k + 1, off, vs, h => by
    simp only [cellsAt] at h
    split at h
    · rename_i v hv
      split at h
      · rename_i us hus
        simp at h; subst h
        obtain ⟨h1, h2⟩ := cellsAt_get k (off + 1) us hus
        refine ⟨by simp [h1], fun j u hj => ?_⟩
        cases j with
        | zero => simp at hj; subst hj; exact hv
        | succ j => have := h2 j u (by simpa using hj); rwa [show off + (j + 1) = off + 1 + j by omega]
      · simp at h
    · simp at h

theorem add_spot (b off k : Nat) : (⟨b, off, none⟩ : Addr).add k = ⟨b, off + k, none⟩ := by unfold Addr.add; split <;> simp_all

abbrev ptr (b off : Nat) : Value := .pointer (some ⟨b, off, none⟩)

section
variable {P : Program} {C : World → Prop} {L : List (Nat × Value)} {dd : Option Tmp} {ty : TypeId} {pos : String} {af : Array Edge} {gd : Option (Nat × Bool)}

theorem yv_load {t : TypeId} {x : Operand} {b off : Nat} {c : Array Value} {e : TypeId} {fr : Nat × Nat} {v : Value} (ht : scalB P t = true) (hx : ev L x = some (ptr b off))
    (hb : ∀ w, C w → w.heap[b]? = some (.cells c e fr)) (hv : c[off]? = some v) : Yv P C L ⟨dd, .load t x, ty, pos, af, gd⟩ v := fun ρ hρ w hw => by
  have hc : w.cell? ⟨b, off, none⟩ = some v := by simp [World.cell?, hb w hw, hv]
  simp [execOp, hρ _ _ hx, Instr.loadAt, Instr.sureAddr, loadVar, run_isAgg_scal ht, hc]

theorem yv_loads {t : TypeId} {k : Nat} {x : Operand} {b off : Nat} {c : Array Value} {e : TypeId} {fr : Nat × Nat} {vs : List Value} (ht : aggB P t = some k) (hx : ev L x = some (ptr b off))
    (hb : ∀ w, C w → w.heap[b]? = some (.cells c e fr)) (hv : cellsAt c off k = some vs) : Yv P C L ⟨dd, .load t x, ty, pos, af, gd⟩ (.agg vs.toArray) := fun ρ hρ w hw => by
  obtain ⟨h1, h2⟩ := cellsAt_get k off vs hv
  obtain ⟨h3, h4⟩ := run_isAgg_agg (w := w) ht
  have h5 := run_loadCells_list (P := P) w ⟨b, off, none⟩ vs (fun j v hj => by rw [add_spot]; simp [World.cell?, hb w hw, h2 j v hj])
  rw [h1] at h5
  simp [execOp, hρ _ _ hx, Instr.loadAt, Instr.sureAddr, loadVar, h3, h4, h5]

theorem yv_fieldAddr {t : TypeId} {x : Operand} {f k b off : Nat} (ht : fieldOff P t f = some k) (hx : ev L x = some (ptr b off)) : Yv P C L ⟨dd, .fieldAddr t x f, ty, pos, af, gd⟩ (ptr b (off + k)) := fun ρ hρ w _ => by
  unfold fieldOff at ht
  split at ht
  · rename_i fs hfs
    split at ht
    · rename_i fl hfl
      split at ht
      · rename_i i hi
        split at ht
        · simp at ht
        · rename_i hz
          simp at ht
          simp [execOp, hρ _ _ hx, Instr.fieldAt, Instr.sureAddr, run_underlying hfs, hfl, fieldPlace, sizeOf, typeInfo, hi, hz, add_spot, ht]
      · simp at ht
    · simp at ht
  · simp at ht

theorem yv_indexAddr {t e : TypeId} {sz : Nat} {x i : Operand} {b off len cap : Nat} {k : IntKind} {j : Int} (ht : sliceElem P t = some (e, sz)) (hx : ev L x = some (.slice (some ⟨b, off, none⟩) len cap))
    (hi : ev L i = some (.int k j)) (h0 : 0 ≤ j) (h1 : j < len) : Yv P C L ⟨dd, .indexAddr t x i, ty, pos, af, gd⟩ (ptr b (off + j.toNat * sz)) := fun ρ hρ w _ => by
  unfold sliceElem at ht
  split at ht
  · rename_i e' he
    cases hin : P.info? e' with
    | none => rw [hin] at ht; simp at ht
    | some inf =>
      rw [hin] at ht; simp at ht
      obtain ⟨rfl, rfl⟩ := ht
      simp [execOp, hρ _ _ hx, hρ _ _ hi, Instr.indexAt, asIntOf, run_underlying he, h0, h1, sizeOf, typeInfo, hin, add_spot]
  · simp at ht

theorem yv_indexArr {t e : TypeId} {m sz : Nat} {x i : Operand} {b off : Nat} {k : IntKind} {j : Int} (ht : arrayElem P t = some (m, e, sz)) (hx : ev L x = some (ptr b off))
    (hi : ev L i = some (.int k j)) (h0 : 0 ≤ j) (h1 : j < m) : Yv P C L ⟨dd, .indexAddr t x i, ty, pos, af, gd⟩ (ptr b (off + j.toNat * sz)) := fun ρ hρ w _ => by
  unfold arrayElem at ht
  split at ht
  · rename_i n' e' he
    cases hin : P.info? e' with
    | none => rw [hin] at ht; simp at ht
    | some inf =>
      rw [hin] at ht; simp at ht
      obtain ⟨rfl, rfl, rfl⟩ := ht
      simp [execOp, hρ _ _ hx, hρ _ _ hi, Instr.indexAt, Instr.sureAddr, asIntOf, run_underlying he, h0, h1, sizeOf, typeInfo, hin, add_spot]
  · simp at ht

theorem yv_field {t : TypeId} {x : Operand} {f : Nat} {cs : Array Value} {fs : Array Field} {fl : Field} {v : Value} (ht : P.underlying t = some (.struct fs)) (hf : fs[f]? = some fl) (hs : scalB P fl.type = true)
    (hx : ev L x = some (.agg cs)) (hv : cs[fl.offset]? = some v) : Yv P C L ⟨dd, .field t x f, ty, pos, af, gd⟩ v := fun ρ hρ w _ => by
  simp [execOp, hρ _ _ hx, Instr.field, run_underlying ht, hf, asAgg, part, run_isAgg_scal hs, hv]
theorem yv_fields {t : TypeId} {x : Operand} {f k : Nat} {cs : Array Value} {fs : Array Field} {fl : Field} {v : Array Value} (ht : P.underlying t = some (.struct fs)) (hf : fs[f]? = some fl) (hs : aggB P fl.type = some k)
    (hx : ev L x = some (.agg cs)) (hv : cs.extract fl.offset (fl.offset + k) = v) : Yv P C L ⟨dd, .field t x f, ty, pos, af, gd⟩ (.agg v) := fun ρ hρ w _ => by
  obtain ⟨h3, h4⟩ := run_isAgg_agg (w := w) hs
  simp [execOp, hρ _ _ hx, Instr.field, run_underlying ht, hf, asAgg, part, h3, h4, hv]

theorem yv_extract {x : Operand} {i : Nat} {vs : Array Value} {v : Value} (hx : ev L x = some (.tuple vs)) (hv : vs[i]? = some v) : Yv P C L ⟨dd, .extract x i, ty, pos, af, gd⟩ v := fun ρ hρ w _ => by
  simp [execOp, hρ _ _ hx, Instr.extract, hv]

theorem yv_nilCheck {x : Operand} {b off : Nat} (hx : ev L x = some (ptr b off)) : Yv P C L ⟨dd, .nilCheck x, ty, pos, af, gd⟩ (ptr b off) := fun ρ hρ w _ => by
  simp [execOp, hρ _ _ hx]

def evs (L : List (Nat × Value)) : List Operand → Option (List Value)
  | [] => some []
  | x :: xs => match ev L x with
    | some v => match evs L xs with
      | some vs => some (v :: vs)
      | none => none
    | none => none

theorem evs_map {L : List (Nat × Value)} {ρ : Operand → Value} (hρ : Agree L ρ) : ∀ (xs : List Operand) (vs : List Value), evs L xs = some vs → xs.map ρ = vs
  | [], vs, h => by simp [evs] at h; simp [h]
  | x :: xs, vs, h => by
    simp only [evs] at h
    split at h
    · rename_i v hv
      split at h
      · rename_i us hus
        simp at h; subst h
        simp [hρ _ _ hv, evs_map hρ xs us hus]
      · simp at h
    · simp at h

theorem yv_makeFunc {fn : Fn} {first captured : List Operand} {fs cs : List Value} (hf : evs L first = some fs) (hc : evs L captured = some cs) :
    Yv P C L ⟨dd, .makeFunc fn first.toArray captured.toArray, ty, pos, af, gd⟩ (.func fn fs.toArray cs.toArray) := fun ρ hρ w _ => by
  simp [execOp, Instr.makeFunc, evs_map hρ _ _ hf, evs_map hρ _ _ hc]

theorem yv_len {t : TypeId} {x : Operand} {a : Option Addr} {n c : Nat} {e : TypeId × Nat} (ht : sliceElem P t = some e) (hx : ev L x = some (.slice a n c)) :
    Yv P C L ⟨dd, .call ⟨.builtin .len, #[x], #[t]⟩, ty, pos, af, gd⟩ (.int .i64 n) := fun ρ hρ w _ => by
  unfold sliceElem at ht
  split at ht
  · rename_i e' he
    simp [execOp, resolve, invoke, builtin, hρ _ _ hx, Builtin.len_, run_underlying he, goInt]
  · simp at ht

theorem yv_max {ts : Array TypeId} {x y : Operand} {k : IntKind} {p q : Int} (hx : ev L x = some (.int k p)) (hy : ev L y = some (.int k q)) :
    Yv P C L ⟨dd, .call ⟨.builtin .max, #[x, y], ts⟩, ty, pos, af, gd⟩ (.int k (max p q)) := fun ρ hρ w _ => by
  simp [execOp, resolve, invoke, builtin, hρ _ _ hx, hρ _ _ hy, Builtin.max_, Builtin.max2]
  split <;> omega
theorem yv_min {ts : Array TypeId} {x y : Operand} {k : IntKind} {p q : Int} (hx : ev L x = some (.int k p)) (hy : ev L y = some (.int k q)) :
    Yv P C L ⟨dd, .call ⟨.builtin .min, #[x, y], ts⟩, ty, pos, af, gd⟩ (.int k (min p q)) := fun ρ hρ w _ => by
  simp [execOp, resolve, invoke, builtin, hρ _ _ hx, hρ _ _ hy, Builtin.min_, Builtin.min2]
  split <;> omega

/-- Values of parts, in their order. -/
def evp (L : List (Nat × Value)) : List (Nat × Operand) → Option (List (Nat × Value))
  | [] => some []
  | (i, x) :: xs => match ev L x with
    | some v => match evp L xs with
      | some vs => some ((i, v) :: vs)
      | none => none
    | none => none
theorem evp_map {L : List (Nat × Value)} {ρ : Operand → Value} (hρ : Agree L ρ) : ∀ (xs : List (Nat × Operand)) (vs : List (Nat × Value)), evp L xs = some vs → xs.map (fun p => (p.1, ρ p.2)) = vs
  | [], vs, h => by simp [evp] at h; simp [h]
  | (i, x) :: xs, vs, h => by
    simp only [evp] at h
    split at h
    · rename_i v hv
      split at h
      · rename_i us hus
        simp at h; subst h
        have ih := evp_map hρ xs us hus
        simp [hρ _ _ hv, ih]
      · simp at h
    · simp at h

theorem yv_build {t : TypeId} {parts : List (Nat × Operand)} {pv : List (Nat × Value)} {v : Value} (hp : evp L parts = some pv) (hrun : ∀ w, (Instr.build t pv.toArray).run P w = .ok v w) :
    Yv P C L ⟨dd, .build t parts.toArray, ty, pos, af, gd⟩ v := fun ρ hρ w _ => by
  have hp' := evp_map hρ _ _ hp
  simp only [execOp, List.map_toArray, hp', Sem.run_bind, hrun, Result.andThen_ok, Sem.run_pure]
end

/-! ### Operations that turn the world -/
section
variable {P : Program} {r : Option Nat} {all : Array Oper} {Q : Exit → Act → World → Prop} {rest : List Oper} {a : Act} {w w0 : World} {M : List Nat} {H : List (Nat × Obj)} {n : Nat} {ds : List Deferred} {L : List (Nat × Value)} {v : Value} {d : Nat}
  {ty : TypeId} {pos : String} {af : Array Edge} {gd : Option (Nat × Bool)}

theorem ops_box {t : TypeId} {x : Operand} (hf : Fr n ds L a) (hh : Hp w0 M H w) (hx : ev L x = some v) (hg : GOn all L ⟨some d, .box t x, ty, pos, af, gd⟩) (hn : Nat.blt d n = true)
    (k : ∀ (B : Nat) (a : Act) (w : World), Fr n ds ((d, ptr B 0) :: L) a → Hp w0 M ((B, .cells v.cells t) :: H) w → OpsW P r all Q rest a w) : OpsW P r all Q (⟨some d, .box t x, ty, pos, af, gd⟩ :: rest) a w := by
  refine opsW_value (w' := { w with heap := w.heap.push (.cells v.cells t) }) (v := ptr w.heap.size 0) (hg.wanted hf) rfl ?_ ?_
  · simp only [execOp, hf.agree _ _ hx]; rfl
  · exact k w.heap.size _ _ (hf.put (blt_lt hn) _) (hh.alloc _)

theorem ops_alloc {t : TypeId} (hf : Fr n ds L a) (hh : Hp w0 M H w) (hz : zeroOf P t = some v) (hg : GOn all L ⟨some d, .alloc t, ty, pos, af, gd⟩) (hn : Nat.blt d n = true)
    (k : ∀ (B : Nat) (a : Act) (w : World), Fr n ds ((d, ptr B 0) :: L) a → Hp w0 M ((B, .cells v.cells t) :: H) w → OpsW P r all Q rest a w) : OpsW P r all Q (⟨some d, .alloc t, ty, pos, af, gd⟩ :: rest) a w := by
  refine opsW_value (w' := { w with heap := w.heap.push (.cells v.cells t) }) (v := ptr w.heap.size 0) (hg.wanted hf) rfl ?_ ?_
  · simp only [execOp, Instr.alloc, Sem.run_bind, run_zero hz, Result.andThen_ok]; rfl
  · exact k w.heap.size _ _ (hf.put (blt_lt hn) _) (hh.alloc _)

/-- A row with values laid over its cells from a place on. -/
def spl (c : Array Value) (off : Nat) (vs : List Value) : Array Value := (c.toList.take off ++ vs ++ c.toList.drop (off + vs.length)).toArray

theorem ext_setRow (w : World) (g : Nat) (cs : Array Value) : Ext [g] w (w.setRow g cs) :=
  ⟨rfl, rfl, rfl, by simp, fun k _ hk => setRow_other w g k cs (by simpa using hk)⟩

theorem run_storeAt {t e : TypeId} {k b off : Nat} {c : Array Value} (hb : w.heap[b]? = some (.cells c e (0, 0))) (hk : ((P.info? t).map (·.size)) = some k) (hv : v.cells.size = k) (h1 : v.cells.toList.all (·.oneCell') = true) (hl : off + k ≤ c.size) :
    (Instr.storeAt t (ptr b off) v).run P w = .ok () (w.setRow b (spl c off v.cells.toList)) := by
  cases hi : P.info? t with
  | none => rw [hi] at hk; simp at hk
  | some i =>
    rw [hi] at hk; simp at hk
    have h := run_storeCells_at P b off e v.cells.toList 0 c w hb (by simp [hv]; omega) (List.all_eq_true.1 h1)
    simp only [Nat.add_zero] at h
    simp [Instr.storeAt, Instr.sureAddr, storeVar, sizeOf, typeInfo, hi, hk, hv, h, spl]

theorem ops_store {t e : TypeId} {x y : Operand} {k b off i : Nat} {c : Array Value} (hf : Fr n ds L a) (hh : Hp w0 M H w) (hx : ev L x = some (ptr b off)) (hi : H[i]? = some (b, .cells c e (0, 0)))
    (hy : ev L y = some v) (hk : ((P.info? t).map (·.size)) = some k) (hv : v.cells.size = k) (h1 : v.cells.toList.all (·.oneCell') = true) (hl : Nat.ble (off + k) c.size = true)
    (hg : GOn all L ⟨none, .store t x y, ty, pos, af, gd⟩)
    (K : ∀ (w : World), Hp w0 M (H.set i (b, .cells (spl c off v.cells.toList) e (0, 0))) w → OpsW P r all Q rest a w) : OpsW P r all Q (⟨none, .store t x y, ty, pos, af, gd⟩ :: rest) a w := by
  have hb := hh.at hi
  refine opsW_skip (w' := w.setRow b (spl c off v.cells.toList)) (hg.wanted hf) rfl ?_ ?_
  · have := run_storeAt (P := P) (t := t) (v := v) hb hk hv h1 (Nat.le_of_ble_eq_true hl)
    simp only [execOp, hf.agree _ _ hx, hf.agree _ _ hy]
    simp [this]
  · exact K _ (hh.turn hi (ext_setRow _ _ _) (setRow_heap _ _ _ _ _ _ hb))

/-! ### Calls -/
def callV (fv : Value) (args : List Value) : Option (FuncId × Array Value) :=
  match fv with
  | .func (.func f) first captured => some (f, first ++ args.toArray ++ captured)
  | _ => none

theorem run_call {ρ : Operand → Value} {fop : Operand} {args : List Operand} {ats : Array TypeId} {dd : Option Tmp} {f : FuncId} {fs cs : Array Value} {vs : List Value} (hρ : Agree L ρ) (hE : Enters P f)
    (hfv : ev L fop = some (.func (.func f) fs cs)) (hargs : evs L args = some vs) : (execOp ρ ⟨dd, .call ⟨.value fop, args.toArray, ats⟩, ty, pos, af, gd⟩).run P w = .ok (.enter f (fs ++ vs.toArray ++ cs)) w := by
  simp [execOp, resolve, Deferred.ofValue, invoke, hρ _ _ hfv, evs_map hρ _ _ hargs, hE _ w]

theorem ops_call {fop : Operand} {args : List Operand} {ats : Array TypeId} {f : FuncId} {fs cs : Array Value} {vs : List Value} {av : Array Value} {R : Value → World → Prop} (hf : Fr n ds L a) (hE : Enters P f)
    (hfv : ev L fop = some (.func (.func f) fs cs)) (hargs : evs L args = some vs) (hav : fs ++ vs.toArray ++ cs = av) (hg : GOn all L ⟨some d, .call ⟨.value fop, args.toArray, ats⟩, ty, pos, af, gd⟩) (hn : Nat.blt d n = true)
    (hc : Calls P f av w (Ret R)) (k : ∀ (v : Value) (a : Act) (w : World), R v w → Fr n ds ((d, v) :: L) a → OpsW P r all Q rest a w) :
    OpsW P r all Q (⟨some d, .call ⟨.value fop, args.toArray, ats⟩, ty, pos, af, gd⟩ :: rest) a w := by
  subst hav
  refine opsW_enter (hg.wanted hf) rfl (run_call hf.agree hE hfv hargs) ((callsIn_wide (n := 0)).2 hc) fun v w'' hR => ?_
  exact k v _ w'' hR (hf.put (blt_lt hn) v)

/-- A call without a result that is kept. -/
theorem ops_call0 {fop : Operand} {args : List Operand} {ats : Array TypeId} {f : FuncId} {fs cs : Array Value} {vs : List Value} {av : Array Value} {R : Value → World → Prop} (hf : Fr n ds L a) (hE : Enters P f)
    (hfv : ev L fop = some (.func (.func f) fs cs)) (hargs : evs L args = some vs) (hav : fs ++ vs.toArray ++ cs = av) (hg : GOn all L ⟨none, .call ⟨.value fop, args.toArray, ats⟩, ty, pos, af, gd⟩)
    (hc : Calls P f av w (Ret R)) (k : ∀ (v : Value) (w : World), R v w → OpsW P r all Q rest a w) :
    OpsW P r all Q (⟨none, .call ⟨.value fop, args.toArray, ats⟩, ty, pos, af, gd⟩ :: rest) a w := by
  subst hav
  exact opsW_enter (hg.wanted hf) rfl (run_call hf.agree hE hfv hargs) ((callsIn_wide (n := 0)).2 hc) fun v w'' hR => k v w'' hR

/-- A call that hands back one value in whatever world of the class, and stays in it. -/
theorem q_call {C : World → Prop} {Q : Act → Prop} {fop : Operand} {args : List Operand} {ats : Array TypeId} {f : FuncId} {fs cs : Array Value} {vs : List Value} {av : Array Value} (hf : Fr n ds L a) (hE : Enters P f)
    (hfv : ev L fop = some (.func (.func f) fs cs)) (hargs : evs L args = some vs) (hav : fs ++ vs.toArray ++ cs = av) (hg : GOn all L ⟨some d, .call ⟨.value fop, args.toArray, ats⟩, ty, pos, af, gd⟩) (hn : Nat.blt d n = true)
    (hc : ∀ w, C w → Calls P f av w (Ret fun u w' => u = v ∧ C w')) (k : ∀ (a : Act), Fr n ds ((d, v) :: L) a → wpQuiet P all C Q rest a) :
    wpQuiet P all C Q (⟨some d, .call ⟨.value fop, args.toArray, ats⟩, ty, pos, af, gd⟩ :: rest) a := by
  subst hav
  simp only [wpQuiet, hg.wanted hf, if_true]
  refine ⟨v, fun w hw => ?_, k _ (hf.put (blt_lt hn) v)⟩
  unfold Oper.quietAt
  rw [run_call hf.agree hE hfv hargs]
  exact ⟨rfl, (hc w hw).mono fun e w' he => by cases e <;> first | exact ⟨by rw [he.1], he.2⟩ | exact he.elim⟩
end

/-! ### Control -/
section
variable {P : Program} {r : Option Nat} {Q : Exit → Act → World → Prop} {a : Act} {w : World}
theorem sy_seq {x y : Code} (h : WP P r x (Exit.then (WP P r y Q) Q) a w) : WP P r (.seq x y) Q a w := wpIn_seq h
theorem sy_block {id : Nat} {c : Code} (h : WP P r c (Exit.inBlock id Q) a w) : WP P r (.block id c) Q a w := wpIn_block h
theorem sy_skip (h : Q .normal a w) : WP P r .skip Q a w := wpIn_skip h
theorem sy_exit {id : Nat} (h : Q (.exit id) a w) : WP P r (.exit id) Q a w := wpIn_exit h
theorem sy_ret (h : Q .ret a w) : WP P r .ret Q a w := wpIn_ret h
theorem sy_cond {n : Nat} {ds : List Deferred} {L : List (Nat × Value)} {c : Operand} {x y : Code} {b : Bool} (hf : Fr n ds L a) (hc : ev L c = some (.bool b))
    (ht : b = true → WP P r x Q a w) (hn : b = false → WP P r y Q a w) : WP P r (.cond c x y) Q a w := wpIn_cond_split (hf.agree _ _ hc) ht hn
theorem sy_condp {n : Nat} {ds : List Deferred} {L : List (Nat × Value)} {c : Operand} {x y : Code} {p : Prop} [Decidable p] (hf : Fr n ds L a) (hc : ev L c = some (.bool (decide p)))
    (ht : p → WP P r x Q a w) (hn : ¬ p → WP P r y Q a w) : WP P r (.cond c x y) Q a w := sy_cond hf hc (fun h => ht (of_decide_eq_true h)) (fun h => hn (of_decide_eq_false h))
theorem sy_loop {c : Code} (I : Act → World → Prop) (μ : Act → World → Nat) (h₀ : I a w)
    (round : ∀ a w, I a w → WP P r c (Exit.then (fun a' w' => I a' w' ∧ μ a' w' < μ a w) Q) a w) : WP P r (.loop c) Q a w := wpIn_loop I μ h₀ round
theorem sy_mono {c : Code} {Q' : Exit → Act → World → Prop} (h : WP P r c Q a w) (hq : ∀ e a w, Q e a w → Q' e a w) : WP P r c Q' a w := wpIn_mono h hq

theorem then_n {K : Act → World → Prop} (h : K a w) : Exit.then K Q .normal a w := h
theorem then_e {K : Act → World → Prop} {id : Nat} (h : Q (.exit id) a w) : Exit.then K Q (.exit id) a w := h
theorem then_r {K : Act → World → Prop} (h : Q .ret a w) : Exit.then K Q .ret a w := h
theorem blk_n {id : Nat} (h : Q .normal a w) : Exit.inBlock id Q .normal a w := h
theorem blk_e {id : Nat} (h : Q .normal a w) : Exit.inBlock id Q (.exit id) a w := by simp [Exit.inBlock, h]
theorem blk_x {id j : Nat} (hne : Nat.beq j id = false) (h : Q (.exit j) a w) : Exit.inBlock id Q (.exit j) a w := by
  have : ¬ j = id := fun e => by subst e; simp at hne
  simp [Exit.inBlock, this, h]
theorem blk_r {id : Nat} (h : Q .ret a w) : Exit.inBlock id Q .ret a w := h

/-- A region whose order is open, all of it quiet in a class. -/
theorem wpIn_of_quiet {C : World → Prop} {o : Oper} {K : Act → Prop} {K' : Act → World → Prop} {Q' : Exit → Act → World → Prop} (hd : isDefer o.op = false) (hw : C w) (h : ∀ a w', C w' → K a → K' a w') (hh : o.quiet P a C K) : o.wpIn (FR r) 0 P a w K' Q' := by
  obtain ⟨v, h1, h2⟩ := hh
  have h3 := h1 w hw
  unfold Oper.quietAt at h3
  refine ⟨fun _ _ => trivial, ?_⟩
  rw [semAt_of hd]
  generalize (execOp a.eval o).run P w = res at *
  cases res with
  | ok nx w' =>
    cases nx <;> simp only [Oper.quietUpon] at h3 <;> simp only [Oper.uponIn]
    case value u =>
      obtain ⟨e1, e2⟩ := h3
      rw [e1, e2]; exact h _ _ hw h2
    case skip =>
      obtain ⟨e1, e2⟩ := h3
      rw [e1, ← e2]; exact h _ _ hw h2
    case enter f args =>
      obtain ⟨e1, hc⟩ := h3
      rw [e1]
      exact ⟨depth_triv r 0, ((callsIn_wide (n := 0)).2 hc : CallsIn (FR r) 0 P f args w _).mono fun e w'' ⟨he, hw''⟩ => by subst he; exact h _ _ hw'' h2⟩
  | halt x w' => simp only [Oper.quietUpon] at h3

def noDefer (ops : Array Oper) : Bool := ops.toList.all fun o => !isDefer o.op
theorem noDefer_get {ops : Array Oper} (h : noDefer ops = true) {i : Nat} {o : Oper} (hi : ops[i]? = some o) : isDefer o.op = false := by
  have := List.all_eq_true.1 h o (Array.mem_toList_iff.2 (Array.mem_of_getElem? hi))
  simpa using this

theorem wpOpIn_of_qOp {C : World → Prop} {ops : Array Oper} (hnd : noDefer ops = true) {i : Nat} {K : Act → Prop} {K' : Act → World → Prop} {Q' : Exit → Act → World → Prop} (hC : C w) (h : ∀ a w', C w' → K a → K' a w') (hh : qOp P ops C i K a) : wpOpIn (FR r) 0 P ops Q' i K' a w := by
  unfold qOp at hh
  unfold wpOpIn
  split
  · rename_i ho; simp only [ho] at hh; exact h _ _ hC hh
  · rename_i o ho
    simp only [ho] at hh
    split
    · rename_i hw; simp only [hw, if_true] at hh; exact wpIn_of_quiet (noDefer_get hnd ho) hC h hh
    · rename_i hw; simp only [hw] at hh; exact ⟨fun _ _ => trivial, h _ _ hC hh⟩

theorem wpAnyIn_of_quiet {C : World → Prop} {ops : Array Oper} {md : Region.Mode} (hnd : noDefer ops = true) {Q : Act → Prop} {Q' : Exit → Act → World → Prop} (hQ : ∀ a w, C w → Q a → Q' .normal a w) : ∀ (fuel : Nat) (listed : Array Bool) (a : Act) (w : World), C w →
    wpAnyQ P md ops C Q fuel listed a → wpAnyIn (FR r) 0 P md ops Q' fuel listed a w
  | 0, _, _, _, hw, h => ⟨h.1, hQ _ _ hw h.2⟩
  | fuel + 1, _, _, _, hw, h => ⟨fun h0 => hQ _ _ hw (h.1 h0), fun i hi => wpOpIn_of_qOp hnd hw (fun a' w' hw' => wpAnyIn_of_quiet hnd hQ fuel _ a' w' hw') (h.2 i hi)⟩

theorem sy_quiet {C : World → Prop} {id : Nat} {l : List Oper} (hm : P.follows .mixedOrders = true) (hB : (Region.lexB .any l.toArray && noDefer l.toArray) = true) (hC : C { w with drawn := w.drawn + 1 })
    (h : wpQuiet P l.toArray C (fun a' => ∀ w', C w' → Q .normal a' w') l a) : WP P r (.region id l.toArray true) Q a w := by
  simp only [Region.lexB, Bool.and_eq_true] at hB
  refine wpIn_region_any hm (wpAnyIn_of_quiet hB.2 (Q := fun a' => ∀ w', C w' → Q .normal a' w') (fun _ w' hw' h => h w' hw') _ _ _ _ hC ?_)
  have := wpAnyQ_lex (C := C) (md := .any) hB.1.1 l 0 (Array.replicate l.toArray.size false) a (by simp) (by simpa using hB.1.2) h
  simpa using this
end

/-! ### Functions -/
section
variable {P : Program} {a : Act} {w : World} {n : Nat} {L : List (Nat × Value)}

theorem calls_of {f : FuncId} {fn : Func} {c : Code} {vs : List Value} {R : Value → World → Prop} (hf : P.funcs[f]? = some fn) (hb : fn.body = some c) (hn : Nat.ble vs.length fn.ntmps = true)
    (h : ∀ a, Fr fn.ntmps [] (argL 0 vs) a → WP P none c (bodyPost P fn (Ret R)) a w) : Calls P f vs.toArray w (Ret R) :=
  (callsIn_wide (n := 0)).1 (callsIn_of_wp (F := FR none) hf hb trivial (h _ (Fr.enter vs fn.ntmps (Nat.le_of_ble_eq_true hn))) rfl)

def resT : List ResultVar → Option (List Operand)
  | [] => some []
  | .tmp t :: l => match resT l with
    | some xs => some (.tmp t :: xs)
    | none => none
  | .cell _ _ :: _ => none

def tup : List Value → Value
  | [v] => v
  | vs => .tuple vs.toArray

theorem run_results_tmps (tm : Array Value) (w : World) (f : ResultVar → Sem Value) (hf : ∀ t, f (.tmp t) = pure (tm.getD t undef)) : ∀ (l : List ResultVar) (xs : List Operand), resT l = some xs →
    (l.mapM f).run P w = .ok (xs.map ({ tmps := tm, defers := [] } : Act).eval) w
  | [], xs, h => by simp [resT] at h; subst h; simp
  | .tmp t :: l, xs, h => by
    simp only [resT] at h
    split at h
    · rename_i ys hys
      simp only [Option.some.injEq] at h; subst h
      have ih := run_results_tmps tm w f hf l ys hys
      simp only [List.mapM_cons, Sem.run_bind, hf, ih, Sem.run_pure, Result.andThen_ok, List.map_cons]
      rfl
    · simp at h
  | .cell _ _ :: l, xs, h => by simp [resT] at h

theorem run_results {fn : Func} {ds : List Deferred} {xs : List Operand} {vs : List Value} (hf : Fr n ds L a) (hr : resT fn.results.toList = some xs) (hv : evs L xs = some vs) :
    (results fn a.tmps).run P w = .ok (tup vs) w := by
  have h2 : xs.map ({ tmps := a.tmps, defers := [] } : Act).eval = vs := by
    have h3 : ({ tmps := a.tmps, defers := [] } : Act).eval = a.eval := funext fun x => by cases x <;> rfl
    rw [h3]; exact evs_map hf.agree _ _ hv
  unfold results
  rw [Sem.run_bind, Array.mapM_eq_mapM_toList, Sem.run_map, run_results_tmps a.tmps w _ (fun t => rfl) _ xs hr, h2]
  simp only [Result.andThen_ok, Sem.run_pure]
  congr 1
  match vs with
  | [] => rfl
  | [v] => rfl
  | u :: v :: l => simp [tup]

theorem ret_r {fn : Func} {R : Value → World → Prop} {xs : List Operand} {vs : List Value} (hf : Fr n [] L a) (hr : resT fn.results.toList = some xs) (hv : evs L xs = some vs) (h : R (tup vs) w) :
    bodyPost P fn (Ret R) .ret a w := ⟨hf.defers, _, run_results hf hr hv, h⟩
theorem ret_n {fn : Func} {R : Value → World → Prop} {xs : List Operand} {vs : List Value} (hf : Fr n [] L a) (hr : resT fn.results.toList = some xs) (hv : evs L xs = some vs) (h : R (tup vs) w) :
    bodyPost P fn (Ret R) .normal a w := ⟨hf.defers, _, run_results hf hr hv, h⟩
end
end Go.Sy
namespace Go.Sy
open Go Go.Proofs Go.RowKit
/-! ### Loops, with a state of their own; frames that forget -/
section
variable {P : Program} {r : Option Nat} {Q : Exit → Act → World → Prop}

theorem roundsIn_mono {c : Code} : ∀ (m : Nat) (a : Act) (w : World), Code.roundsIn (FR r) 0 P c Q m a w → Code.roundsIn (FR r) 0 P c Q (m + 1) a w
  | 0, _, _, h => h.elim
  | m + 1, _, _, h => wpIn_mono h fun e a w he => by
    cases e <;> first | exact roundsIn_mono m _ _ he | exact he

theorem roundsIn_le {c : Code} {m k : Nat} (h : m ≤ k) {a : Act} {w : World} (hr : Code.roundsIn (FR r) 0 P c Q m a w) : Code.roundsIn (FR r) 0 P c Q k a w := by
  induction h with
  | refl => exact hr
  | step _ ih => exact roundsIn_mono _ _ _ ih

theorem sy_loopG {σ : Type} {c : Code} (I : σ → Act → World → Prop) (μ : σ → Nat) (s0 : σ) {a : Act} {w : World} (h0 : I s0 a w)
    (round : ∀ s a w, I s a w → WP P r c (Exit.then (fun a' w' => ∃ s', I s' a' w' ∧ μ s' < μ s) Q) a w) : WP P r (.loop c) Q a w := by
  have key : ∀ n s a w, μ s ≤ n → I s a w → Code.roundsIn (FR r) 0 P c Q (n + 1) a w := by
    intro n
    induction n with
    | zero =>
      intro s a w hn hI
      refine wpIn_mono (round s a w hI) fun e a w he => ?_
      cases e <;> first | (obtain ⟨s', _, h2⟩ := he; omega) | exact he
    | succ n ih =>
      intro s a w hn hI
      refine wpIn_mono (round s a w hI) fun e a w he => ?_
      cases e <;> first | (obtain ⟨s', h1, h2⟩ := he; exact ih s' a w (by omega) h1) | exact he
  exact wpIn_loop_rounds (μ s0 + 1) (key (μ s0) s0 a w (Nat.le_refl _) h0)
end

def elemN (t : Nat) : List Nat → Bool
  | [] => false
  | s :: l => bif Nat.beq s t then true else elemN t l

def rmL (ms : List Nat) : List (Nat × Value) → List (Nat × Value)
  | [] => []
  | (s, v) :: L => bif elemN s ms then rmL ms L else (s, v) :: rmL ms L

theorem lk_rmL {ms : List Nat} : ∀ {L : List (Nat × Value)} {t : Nat}, elemN t ms = false → lk (rmL ms L) t = lk L t
  | [], t, _ => rfl
  | (s, v) :: L, t, ht => by
    simp only [rmL, lk]
    by_cases hs : s = t
    · subst hs; simp [ht, lk]
    · rw [beq_ne hs]
      cases h : elemN s ms <;> simp [lk, beq_ne hs, lk_rmL (L := L) ht]
theorem lk_rmL_in {ms : List Nat} : ∀ {L : List (Nat × Value)} {t : Nat}, elemN t ms = true → lk (rmL ms L) t = none
  | [], t, _ => rfl
  | (s, v) :: L, t, ht => by
    simp only [rmL]
    by_cases hs : s = t
    · subst hs; simp [ht, lk_rmL_in (L := L) ht]
    · cases h : elemN s ms <;> simp [lk, beq_ne hs, lk_rmL_in (L := L) ht]

/-- Beside the slots of ms, L tells what T tells. -/
def Keep (ms : List Nat) (T L : List (Nat × Value)) : Prop := ∀ t, elemN t ms = false → lk L t = lk T t

theorem Keep.base {ms : List Nat} {T : List (Nat × Value)} : Keep ms T T := fun _ _ => rfl
theorem Keep.cons {ms : List Nat} {T L : List (Nat × Value)} {d : Nat} {v : Value} (hd : elemN d ms = true) (h : Keep ms T L) : Keep ms T ((d, v) :: L) := fun t ht => by
  have : ¬ d = t := fun e => by subst e; rw [hd] at ht; cases ht
  simp only [lk, beq_ne this, cond_false]; exact h t ht
theorem Keep.app {ms : List Nat} {T L : List (Nat × Value)} : ∀ {W : List (Nat × Value)}, (W.all fun p => elemN p.1 ms) = true → Keep ms T L → Keep ms T (W ++ L)
  | [], _, h => h
  | (d, v) :: W, hw, h => by
    simp only [List.all_cons, Bool.and_eq_true] at hw
    exact Keep.cons hw.1 (Keep.app hw.2 h)
def subN (a b : List Nat) : Bool := a.all fun t => elemN t b
theorem elemN_iff {t : Nat} : ∀ {l : List Nat}, elemN t l = true ↔ t ∈ l
  | [] => by simp [elemN]
  | s :: l => by
    simp only [elemN]
    by_cases hs : s = t
    · subst hs; simp
    · simp [beq_ne hs, elemN_iff (l := l), Ne.symm hs]
theorem Keep.rm {ms ms' : List Nat} {T L : List (Nat × Value)} (hs : subN ms' ms = true) (h : Keep ms T L) : Keep ms T (rmL ms' L) := fun t ht => by
  have h1 : elemN t ms' = false := by
    cases h2 : elemN t ms' with
    | false => rfl
    | true =>
      have h3 := List.all_eq_true.1 hs t (elemN_iff.1 h2)
      rw [h3] at ht; cases ht
  rw [lk_rmL h1]; exact h t ht

/-- The frame at a loop's head: values of the slots that it turns, and the others as they were. -/
theorem Fr.head {n : Nat} {ds : List Deferred} {L L' ov : List (Nat × Value)} {ms : List Nat} {a : Act} (h : Fr n ds L' a) (ho : AllIn L' ov) (hk : Keep ms L L') : Fr n ds (ov ++ rmL ms L) a := by
  refine ⟨h.size, h.defers, fun t v ht => ?_⟩
  have key : ∀ K : List (Nat × Value), AllIn L' K → lk (K ++ rmL ms L) t = some v → lk L' t = some v := by
    intro K
    induction K with
    | nil =>
      intro _ h1
      rw [List.nil_append] at h1
      cases h2 : elemN t ms with
      | true => rw [lk_rmL_in h2] at h1; cases h1
      | false => rw [lk_rmL h2] at h1; rw [hk t h2]; exact h1
    | cons p K ih =>
      obtain ⟨s, u⟩ := p
      rintro ⟨h1, h2⟩ h3
      simp only [List.cons_append, lk] at h3
      by_cases hs : s = t
      · subst hs; simp at h3; rw [← h3]; exact h1
      · rw [beq_ne hs, cond_false] at h3; exact ih h2 h3
  exact h.get t v (key ov ho ht)

section
variable {P : Program} {r : Option Nat} {Q : Exit → Act → World → Prop} {n : Nat} {ds : List Deferred} {L : List (Nat × Value)} {a : Act} {w w0 : World} {M : List Nat} {H : List (Nat × Obj)}

/-- A loop that leaves all known blocks as they are. -/
theorem sy_loopF {σ : Type} {c : Code} (ms : List Nat) (ov : σ → List (Nat × Value)) (pr : σ → Prop) (μ : σ → Nat) (s0 : σ) (hf : Fr n ds L a) (hh : Hp w0 M H w) (h0 : AllIn L (ov s0)) (hp : pr s0)
    (round : ∀ s a w, pr s → Fr n ds (ov s ++ rmL ms L) a → Hp w0 M H w → WP P r c (Exit.then (fun a' w' => ∃ s', (pr s' ∧ Fr n ds (ov s' ++ rmL ms L) a' ∧ Hp w0 M H w') ∧ μ s' < μ s) Q) a w) : WP P r (.loop c) Q a w :=
  sy_loopG (fun s a w => pr s ∧ Fr n ds (ov s ++ rmL ms L) a ∧ Hp w0 M H w) μ s0 ⟨hp, hf.head h0 Keep.base, hh⟩ fun s a w h => round s a w h.1 h.2.1 h.2.2

/-- A loop that turns known blocks. -/
theorem sy_loopH {σ : Type} {c : Code} (ms : List Nat) (ov : σ → List (Nat × Value)) (hp : σ → World → Prop) (μ : σ → Nat) (s0 : σ) (hf : Fr n ds L a) (h0 : AllIn L (ov s0)) (hw : hp s0 w)
    (round : ∀ s a w, hp s w → Fr n ds (ov s ++ rmL ms L) a → WP P r c (Exit.then (fun a' w' => ∃ s', (hp s' w' ∧ Fr n ds (ov s' ++ rmL ms L) a') ∧ μ s' < μ s) Q) a w) : WP P r (.loop c) Q a w :=
  sy_loopG (fun s a w => hp s w ∧ Fr n ds (ov s ++ rmL ms L) a) μ s0 ⟨hw, hf.head h0 Keep.base⟩ fun s a w h => round s a w h.1 h.2

theorem guard_split {all : Array Oper} {ops : List Oper} {t : Nat} {c : Bool} (_hf : Fr n ds L a) (_h : lk L t = some (.bool c)) (h1 : c = true → OpsW P r all Q ops a w) (h2 : c = false → OpsW P r all Q ops a w) : OpsW P r all Q ops a w := by
  cases c
  · exact h2 rfl
  · exact h1 rfl
theorem guard_splitq {C : World → Prop} {Q : Act → Prop} {all : Array Oper} {ops : List Oper} {t : Nat} {c : Bool} (_hf : Fr n ds L a) (_h : lk L t = some (.bool c)) (h1 : c = true → wpQuiet P all C Q ops a) (h2 : c = false → wpQuiet P all C Q ops a) : wpQuiet P all C Q ops a := by
  cases c
  · exact h2 rfl
  · exact h1 rfl
end

theorem gon {all : Array Oper} {L : List (Nat × Value)} {o : Oper} {j t : Nat} {b c : Bool} (h1 : o.guard = some (j, b)) (h2 : (all[j]?).bind (·.dst) = some t) (h3 : lk L t = some (.bool c)) (h4 : c = b) : GOn all L o :=
  .inr ⟨j, b, t, h1, h2, h4 ▸ h3⟩
theorem goff {all : Array Oper} {L : List (Nat × Value)} {o : Oper} {j t : Nat} {b c : Bool} (h1 : o.guard = some (j, b)) (h2 : (all[j]?).bind (·.dst) = some t) (h3 : lk L t = some (.bool c)) (h4 : c = !b) : GOff all L o :=
  ⟨j, b, t, h1, h2, .inr ⟨c, h3, by subst h4; simp⟩⟩
theorem goffu {all : Array Oper} {L : List (Nat × Value)} {o : Oper} {j t : Nat} {b : Bool} (h1 : o.guard = some (j, b)) (h2 : (all[j]?).bind (·.dst) = some t) (h3 : lk L t = some undef) : GOff all L o :=
  ⟨j, b, t, h1, h2, .inl h3⟩
end Go.Sy
namespace Go.Sy
open Go Go.Proofs Go.RowKit
section
variable {P : Program} {r : Option Nat} {Q : Exit → Act → World → Prop} {n : Nat} {ds : List Deferred} {L : List (Nat × Value)} {a : Act} {w w0 : World} {M : List Nat} {H : List (Nat × Obj)}
theorem sy_ct {c : Operand} {x y : Code} {b : Bool} (hf : Fr n ds L a) (hc : ev L c = some (.bool b)) (hb : b = true) (h : WP P r x Q a w) : WP P r (.cond c x y) Q a w :=
  sy_cond hf hc (fun _ => h) (fun e => by rw [hb] at e; cases e)
theorem sy_cf {c : Operand} {x y : Code} {b : Bool} (hf : Fr n ds L a) (hc : ev L c = some (.bool b)) (hb : b = false) (h : WP P r y Q a w) : WP P r (.cond c x y) Q a w :=
  sy_cond hf hc (fun e => by rw [hb] at e; cases e) (fun _ => h)

theorem Calls.ret_mono {f : FuncId} {args : Array Value} {R R' : Value → World → Prop} (h : Calls P f args w (Ret R)) (hr : ∀ v w', R v w' → R' v w') : Calls P f args w (Ret R') :=
  h.mono fun e w' he => by cases e <;> first | exact hr _ _ he | exact he

theorem q_callE {all : Array Oper} {rest : List Oper} {v : Value} {d : Nat} {ty : TypeId} {pos : String} {af : Array Edge} {gd : Option (Nat × Bool)} {Q : Act → Prop} {fop : Operand} {args : List Operand} {ats : Array TypeId} {f : FuncId} {fs cs : Array Value} {vs : List Value} {av : Array Value} (hf : Fr n ds L a) (hE : Enters P f)
    (hfv : ev L fop = some (.func (.func f) fs cs)) (hargs : evs L args = some vs) (hav : fs ++ vs.toArray ++ cs = av) (hg : GOn all L ⟨some d, .call ⟨.value fop, args.toArray, ats⟩, ty, pos, af, gd⟩) (hn : Nat.blt d n = true)
    (hc : ∀ w, Hp w0 M H w → Calls P f av w (Ret fun u w' => u = v ∧ Ext [] w w')) (k : ∀ (a : Act), Fr n ds ((d, v) :: L) a → wpQuiet P all (Hp w0 M H) Q rest a) :
    wpQuiet P all (Hp w0 M H) Q (⟨some d, .call ⟨.value fop, args.toArray, ats⟩, ty, pos, af, gd⟩ :: rest) a :=
  q_call hf hE hfv hargs hav hg hn (fun w hw => Calls.ret_mono (hc w hw) fun _ _ h => ⟨h.1, hw.more h.2⟩) k
end
/-- What a guard that was decided says. -/
theorem gS : (∀ (p : Prop) [Decidable p], (decide p = true) = p) ∧ (∀ (p : Prop) [Decidable p], (decide p = false) = ¬p) ∧ (∀ a b : Int, (¬a < b) = (b ≤ a)) ∧ (∀ a b : Int, (¬a ≤ b) = (b < a)) ∧ (∀ b : Bool, ((!b) = true) = (b = false)) ∧ (∀ b : Bool, ((!b) = false) = (b = true)) :=
  ⟨fun _ _ => propext decide_eq_true_iff, fun _ _ => propext decide_eq_false_iff_not, fun _ _ => propext Int.not_lt, fun _ _ => propext Int.not_le, fun b => by cases b <;> simp, fun b => by cases b <;> simp⟩
end Go.Sy
