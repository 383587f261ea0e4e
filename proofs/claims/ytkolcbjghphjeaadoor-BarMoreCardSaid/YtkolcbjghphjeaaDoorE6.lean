/- The engine: values that are built; slices that grow. -/
import Derived.Test.YtkolcbjghphjeaaDoorE5
namespace Go.Sy
open Go Go.Proofs Go.RowKit

def putL (cs : List Value) (off : Nat) : List Value → List Value
  | [] => cs
  | v :: vs => putL (cs.set off v) (off + 1) vs
def fillM (pl : Nat → Option (Nat × Nat)) : List Value → List (Nat × Value) → Option (List Value)
  | cs, [] => some cs
  | cs, (i, v) :: rest => match pl i with
    | none => none
    | some (off, size) => bif Nat.beq v.cells.toList.length size && Nat.ble (off + v.cells.toList.length) cs.length then fillM pl (putL cs off v.cells.toList) rest else none

theorem foldl_putL : ∀ (vs : List Value) (j off : Nat) (cs : List Value), (vs.zipIdx j).foldl (fun (c : Array Value) (p : Value × Nat) => c.setIfInBounds (off + p.2) p.1) cs.toArray = (putL cs (off + j) vs).toArray
  | [], j, off, cs => rfl
  | v :: vs, j, off, cs => by
    simp only [List.zipIdx_cons, List.foldl_cons, putL]
    rw [show cs.toArray.setIfInBounds (off + j) v = (cs.set (off + j) v).toArray by simp, foldl_putL vs (j + 1) off]
    rfl

theorem fill_eq (pl : Nat → Option (Nat × Nat)) : ∀ (parts : List (Nat × Value)) (cs r : List Value), fillM pl cs parts = some r → Instr.fill pl cs.toArray parts = some r.toArray
  | [], cs, r, h => by simp [fillM] at h; simp [Instr.fill, h]
  | (i, v) :: rest, cs, r, h => by
    simp only [fillM] at h
    cases hp : pl i with
    | none => rw [hp] at h; simp at h
    | some os =>
      obtain ⟨off, size⟩ := os
      rw [hp] at h
      simp only at h
      cases hc : (Nat.beq v.cells.toList.length size && Nat.ble (off + v.cells.toList.length) cs.length) with
      | false => rw [hc] at h; simp at h
      | true =>
        rw [hc, cond_true] at h
        simp only [Bool.and_eq_true, Nat.beq_eq, Nat.ble_eq, Array.length_toList] at hc
        have ih := fill_eq pl rest _ r h
        have e := foldl_putL v.cells.toList 0 off cs
        simp only [Nat.add_zero] at e
        have e2 : (v.cells.zipIdx.foldl (fun cs (x : Value × Nat) => cs.setIfInBounds (off + x.2) x.1) cs.toArray) = (putL cs off v.cells.toList).toArray := by
          rw [← e, ← Array.foldl_toList, Array.toList_zipIdx]
        simp only [Instr.fill, hp]
        rw [if_neg (by simp [hc.1]; omega)]
        rw [← ih, ← e2]

def structB (P : Program) (t : TypeId) : Option (List Value × List (Nat × Nat)) :=
  match P.underlying t, zeroOf P t with
  | some (.struct fs), some z => if fs.toList.all (fun f => (P.info? f.type).isSome) then some (z.cells.toList, fs.toList.map fun f => (f.offset, ((P.info? f.type).map (·.size)).getD 0)) else none
  | _, _ => none
def arrayB (P : Program) (t : TypeId) : Option (List Value × Nat) :=
  match P.underlying t, zeroOf P t with
  | some (.array _ e), some z => (P.info? e).map fun i => (z.cells.toList, i.size)
  | _, _ => none

theorem run_mapM_pl {P : Program} (w : World) (f : Field → Sem (Nat × Nat)) (hf : ∀ x, f x = (do pure (x.offset, ← sizeOf x.type))) : ∀ (l : List Field), (l.all fun f => (P.info? f.type).isSome) = true →
    (l.mapM f).run P w = .ok (l.map fun f => (f.offset, ((P.info? f.type).map (·.size)).getD 0)) w
  | [], _ => by simp
  | x :: l, h => by
    simp only [List.all_cons, Bool.and_eq_true] at h
    obtain ⟨i, hi⟩ := Option.isSome_iff_exists.1 h.1
    have ih := run_mapM_pl w f hf l h.2
    have e : (f x).run P w = .ok (x.offset, i.size) w := by rw [hf]; simp [sizeOf, typeInfo, hi]
    simp only [List.mapM_cons, Sem.run_bind, e, ih, Sem.run_pure, Result.andThen_ok, List.map_cons, hi, Option.map_some, Option.getD_some]

section
variable {P : Program} {C : World → Prop} {L : List (Nat × Value)} {dd : Option Tmp} {ty : TypeId} {pos : String} {af : Array Edge} {gd : Option (Nat × Bool)}
theorem yv_buildS {t : TypeId} {parts : List (Nat × Operand)} {pv : List (Nat × Value)} {zs cs : List Value} {pl : List (Nat × Nat)} (ht : structB P t = some (zs, pl)) (hp : evp L parts = some pv) (hc : fillM (fun i => pl[i]?) zs pv = some cs) :
    Yv P C L ⟨dd, .build t parts.toArray, ty, pos, af, gd⟩ (.agg cs.toArray) := fun ρ hρ w _ => by
  have hp' := evp_map hρ _ _ hp
  unfold structB at ht
  split at ht
  · rename_i fs z h1 h2
    split at ht
    · rename_i hok
      simp only [Option.some.injEq, Prod.mk.injEq] at ht
      obtain ⟨rfl, rfl⟩ := ht
      have hf := fill_eq _ pv _ cs hc
      simp only [execOp, List.map_toArray, hp', Instr.build, Sem.run_bind, run_zero h2, Result.andThen_ok, run_underlying h1, Sem.run_pure]
      rw [Array.mapM_eq_mapM_toList, Sem.run_map, run_mapM_pl w _ (fun _ => rfl) _ hok]
      simp only [Result.andThen_ok, List.getElem?_toArray]
      rw [show z.cells = z.cells.toList.toArray from rfl, hf]
      rfl
    · simp at ht
  · simp at ht
theorem yv_buildA {t : TypeId} {parts : List (Nat × Operand)} {pv : List (Nat × Value)} {zs cs : List Value} {sz : Nat} (ht : arrayB P t = some (zs, sz)) (hp : evp L parts = some pv) (hc : fillM (fun i => some (i * sz, sz)) zs pv = some cs) :
    Yv P C L ⟨dd, .build t parts.toArray, ty, pos, af, gd⟩ (.agg cs.toArray) := fun ρ hρ w _ => by
  have hp' := evp_map hρ _ _ hp
  unfold arrayB at ht
  split at ht
  · rename_i n e z h1 h2
    cases hi : P.info? e with
    | none => rw [hi] at ht; simp at ht
    | some i =>
      rw [hi] at ht
      simp only [Option.map_some, Option.some.injEq, Prod.mk.injEq] at ht
      obtain ⟨rfl, rfl⟩ := ht
      have hf := fill_eq _ pv _ cs hc
      have hsz : (sizeOf e).run P w = .ok i.size w := by simp [sizeOf, typeInfo, hi]
      simp only [execOp, List.map_toArray, hp', Instr.build, Sem.run_bind, run_zero h2, Result.andThen_ok, run_underlying h1, Sem.run_pure, hsz]
      rw [show z.cells = z.cells.toList.toArray from rfl, hf]
      rfl
  · simp at ht

theorem yv_negw {t : TypeId} {x : Operand} {k : IntKind} {p : Int} (hx : ev L x = some (.int k p)) : Yv P C L ⟨dd, .unOp .neg t x, ty, pos, af, gd⟩ (.int k (k.wrap (0 - p))) := fun ρ hρ w _ => by
  simp [execOp, hρ _ _ hx, Op.unary, Op.intArith]
end

def sliceB (P : Program) (t : TypeId) (m : Nat) : Option (TypeId × Nat × List Value) :=
  match P.underlying t with
  | some (.slice e) => match P.info? e, zeroOf P e with
    | some i, some z => if 2 ^ 24 < m * i.size then none else some (e, i.size, ((Array.range (m * i.size)).map (z.cells[· % z.cells.size]!)).toList)
    | _, _ => none
  | _ => none

section
variable {P : Program} {r : Option Nat} {all : Array Oper} {Q : Exit → Act → World → Prop} {rest : List Oper} {a : Act} {w w0 : World} {M : List Nat} {H : List (Nat × Obj)} {n : Nat} {ds : List Deferred} {L : List (Nat × Value)} {v : Value} {d : Nat}
  {ty : TypeId} {pos : String} {af : Array Edge} {gd : Option (Nat × Bool)}

theorem ops_buildSl {t : TypeId} {m sz : Nat} {parts : List (Nat × Operand)} {pv : List (Nat × Value)} {zs cs : List Value} {e : TypeId} (hf : Fr n ds L a) (hh : Hp w0 M H w) (ht : sliceB P t m = some (e, sz, zs)) (hp : evp L parts = some pv)
    (hc : fillM (fun i => some (i * sz, sz)) zs pv = some cs) (hg : GOn all L ⟨some d, .buildSlice t m parts.toArray, ty, pos, af, gd⟩) (hn : Nat.blt d n = true)
    (k : ∀ (B : Nat) (a : Act) (w : World), Fr n ds ((d, .slice (some ⟨B, 0, none⟩) m m) :: L) a → Hp w0 M ((B, .cells cs.toArray e) :: H) w → OpsW P r all Q rest a w) : OpsW P r all Q (⟨some d, .buildSlice t m parts.toArray, ty, pos, af, gd⟩ :: rest) a w := by
  have hp' := evp_map hf.agree _ _ hp
  have hrun : (Instr.buildSlice t m pv.toArray).run P w = .ok (.slice (some ⟨w.heap.size, 0, none⟩) m m) { w with heap := w.heap.push (.cells cs.toArray e) } := by
    unfold sliceB at ht
    split at ht
    · rename_i e' h1
      split at ht
      · rename_i i z h2 h3
        split at ht
        · simp at ht
        · rename_i hsmall
          simp only [Option.some.injEq, Prod.mk.injEq] at ht
          obtain ⟨rfl, rfl, rfl⟩ := ht
          have hf := fill_eq _ pv _ cs hc
          have hsz : (sizeOf e').run P w = .ok i.size w := by simp [sizeOf, typeInfo, h2]
          have s1 : ¬ m * i.size > 2 ^ 24 := by omega
          simp only [Instr.buildSlice, Sem.run_bind, run_underlying h1, Result.andThen_ok, hsz]
          rw [if_neg s1]
          by_cases s2 : m * i.size = 0
          · rw [if_pos s2]
            rw [s2] at hf ⊢
            simp only [Sem.run_bind, Result.andThen_ok, Sem.run_pure, Array.toArray_toList] at hf ⊢
            have e0 : ((Array.range 0).map fun x => z.cells[x % z.cells.size]!) = (Array.range 0).map fun x => (#[] : Array Value)[x % (#[] : Array Value).size]! := by simp
            rw [e0] at hf
            rw [hf]
            rfl
          · rw [if_neg s2]
            simp only [Sem.run_bind, run_zero h3, Result.andThen_ok, Sem.run_pure, Array.toArray_toList] at hf ⊢
            rw [hf]
            rfl
      · simp at ht
    · simp at ht
  refine opsW_value (w' := { w with heap := w.heap.push (.cells cs.toArray e) }) (v := .slice (some ⟨w.heap.size, 0, none⟩) m m) (hg.wanted hf) rfl ?_ ?_
  · simp only [execOp, List.map_toArray, hp', Sem.run_bind, hrun, Result.andThen_ok, Sem.run_pure]
  · exact k w.heap.size _ _ (hf.put (blt_lt hn) _) (hh.alloc _)

/-- A slice of the call's own: nil, or from the head of a block of its own. -/
def OwnSl (e size : Nat) (v : Value) (m : Nat) (xs : List Value) (X : List (Nat × Obj)) : Prop :=
  xs.length = m * size ∧ ((v = .slice none 0 0 ∧ m = 0 ∧ X = []) ∨ ∃ B cap cur, v = .slice (some ⟨B, 0, none⟩) m cap ∧ X = [(B, .cells cur e (0, 0))] ∧ m ≤ cap ∧ cap ≤ maxLen ∧ cur.size = cap * size ∧ cur.toList.take (m * size) = xs)
theorem OwnSl.nil (e size : Nat) : OwnSl e size (.slice none 0 0) 0 [] [] := ⟨by simp, .inl ⟨rfl, rfl, rfl⟩⟩

def elemB (P : Program) (t : TypeId) : Option (TypeId × Nat × Nat × Value) :=
  match P.underlying t with
  | some (.slice e) => match P.info? e with
    | some i => match i.zero with
      | some z => if z.cells.size = i.size ∧ 0 < i.size then some (e, i.size, i.bytes, z) else none
      | none => none
    | none => none
  | _ => none

theorem ops_append {t : TypeId} {e size bytes : Nat} {z : Value} {x y : Operand} {m q : Nat} {xs news : List Value} {X Z : List (Nat × Obj)} {Bn : Nat} {cs : Array Value} {e' : TypeId} (hf : Fr n ds L a) (hh : Hp w0 M ((Bn, .cells cs e' (0, 0)) :: (X ++ Z)) w)
    (ht : elemB P t = some (e, size, bytes, z)) (hx : ev L x = some v) (hy : ev L y = some (.slice (some ⟨Bn, 0, none⟩) q q)) (ho : OwnSl e size v m xs X) (hcs : cs.toList = news) (hl : news.length = q * size) (h1 : news.all (·.oneCell') = true)
    (h63 : m + q ≤ maxLen) (hby : (m + q) * bytes ≤ 140737488355328) (hg : GOn all L ⟨some d, .call ⟨.builtin .append, #[x, y], #[t, t]⟩, ty, pos, af, gd⟩) (hn : Nat.blt d n = true)
    (k : ∀ (v' : Value) (X' : List (Nat × Obj)) (a : Act) (w : World), OwnSl e size v' (m + q) (xs ++ news) X' → Fr n ds ((d, v') :: L) a → Hp w0 M (X' ++ Z) w → OpsW P r all Q rest a w) :
    OpsW P r all Q (⟨some d, .call ⟨.builtin .append, #[x, y], #[t, t]⟩, ty, pos, af, gd⟩ :: rest) a w := by
  obtain ⟨hxl, hown⟩ := ho
  unfold elemB at ht
  split at ht
  · rename_i e0 hu
    split at ht
    · rename_i i hi
      split at ht
      · rename_i z0 hz
        split at ht
        · rename_i hzs
          simp only [Option.some.injEq, Prod.mk.injEq] at ht
          obtain ⟨rfl, rfl, rfl, rfl⟩ := ht
          have hnb := hh.at (i := 0) rfl
          have hnews : ∀ j u, news[j]? = some u → w.cell? ((⟨Bn, 0, none⟩ : Addr).add j) = some u := fun j u hj => by
            rw [add_spot, Nat.zero_add]
            subst hcs
            rw [Array.getElem?_toList] at hj
            simp [World.cell?, hnb, hj]
          have h1' : ∀ u ∈ news, u.oneCell' = true := List.all_eq_true.1 h1
          have hrest : Hp w0 M Z w := hh.less (.cons _ (List.sublist_append_right _ _))
          have hlen : (xs ++ news).length = (m + q) * i.size := by rw [List.length_append, hxl, hl, Nat.add_mul]
          have hgo : ∀ (v' : Value) (w' : World), (Builtin.append_ #[t, t] ty #[v, .slice (some ⟨Bn, 0, none⟩) q q]).run P w = .ok v' w' →
              (execOp a.eval ⟨some d, .call ⟨.builtin .append, #[x, y], #[t, t]⟩, ty, pos, af, gd⟩).run P w = .ok (.value v') w' := fun v' w' hr => by
            simp only [execOp, resolve, invoke, builtin, Sem.run_bind, Sem.run_pure, Result.andThen_ok, List.map_toArray, List.map_cons, List.map_nil, hf.agree _ _ hx, hf.agree _ _ hy, hr]
          -- a new block
          have fresh : ∀ (old : Nat), old ≤ m + q → OwnSl e0 i.size (.slice (some ⟨w.heap.size, 0, none⟩) (m + q) (grownCap w (m + q) old e0)) (m + q) (xs ++ news)
              [(w.heap.size, .cells (xs.toArray ++ news.toArray ++ Builtin.zeroCells z0.cells (grownCap w (m + q) old e0 - (m + q))) e0 (0, 0))] := by
            intro old _
            have hge := grownCap_ge w (m + q) old e0
            refine ⟨hlen, .inr ⟨_, _, _, rfl, rfl, hge, grownCap_le_maxLen w (m + q) old e0 h63, ?_, ?_⟩⟩
            · simp only [Array.size_append, List.size_toArray, size_zeroCells, hzs.1, hxl, hl, ← Nat.add_mul]
              congr 1; omega
            · simp only [Array.toList_append, List.append_assoc]
              rw [← List.append_assoc, ← hlen]
              exact List.take_left
          have hal : ∀ o, Hp w0 M ((w.heap.size, o) :: Z) (w.drew.alloc o) := fun o => by
            have := (hrest.drawn (w.drawn + 1)).alloc o
            exact this
          rcases hown with ⟨rfl, rfl, rfl⟩ | ⟨B, cap, cur, rfl, rfl, h3, h4, h5, h6⟩
          · have hx0 : xs = [] := List.eq_nil_of_length_eq_zero (by simpa using hxl)
            subst hx0
            by_cases hq : q = 0
            · subst hq
              have hn0 : news = [] := List.eq_nil_of_length_eq_zero (by simpa using hl)
              subst hn0
              refine opsW_value (hg.wanted hf) rfl (hgo (.slice none 0 0) w ?_) (k _ [] _ _ (OwnSl.nil _ _) (hf.put (blt_lt hn) _) hrest)
              simp [Builtin.append_, run_underlying hu, sizeOf, typeInfo, hi, Builtin.lenOf, Builtin.firstCells, loadCells, loadCellsFrom]
            · have hr := run_append_nil (P := P) w t ty e0 i z0 hu hi hz ⟨Bn, 0, none⟩ q q news hl hnews (by omega) (by simp only [maxLen] at h63; omega) (by have hb := hby; simp only [Nat.zero_add] at hb; omega)
              have hfr := fresh 0 (by omega)
              simp only [Nat.zero_add, List.nil_append, Array.empty_append] at hfr
              refine opsW_value (hg.wanted hf) rfl (hgo _ _ hr) (k _ [(w.heap.size, _)] _ _ ?_ (hf.put (blt_lt hn) _) (hal _))
              simpa using hfr
          · have hb := hh.at (i := 1) rfl
            by_cases hroom : m + q ≤ cap
            · have hfit : m * i.size + news.length ≤ cur.size := by rw [hl, h5, ← Nat.add_mul]; exact Nat.mul_le_mul_right _ hroom
              have hr := run_append_room (P := P) w t ty e0 i hu hi B m cap cur hb ⟨Bn, 0, none⟩ q q news hl hnews h1' hroom hfit
              have ht2 := hh.turn (i := 1) rfl (ext_setRow w B (cur.toList.take (m * i.size) ++ news ++ cur.toList.drop (m * i.size + news.length)).toArray) (setRow_heap w B cur _ e0 _ hb)
              refine opsW_value (hg.wanted hf) rfl (hgo _ _ hr) (k _ [(B, .cells (cur.toList.take (m * i.size) ++ news ++ cur.toList.drop (m * i.size + news.length)).toArray e0 (0, 0))] _ _ ?_ (hf.put (blt_lt hn) _) (ht2.less (.cons _ (List.Sublist.refl _))))
              refine ⟨hlen, .inr ⟨B, cap, _, rfl, rfl, hroom, h4, ?_, ?_⟩⟩
              · simp only [List.size_toArray, List.length_append, List.length_take, List.length_drop, Array.length_toList]
                omega
              · rw [h6, ← hlen]
                exact List.take_left
            · have holds : ∀ j u, xs[j]? = some u → w.cell? ((⟨B, 0, none⟩ : Addr).add j) = some u := fun j u hj => by
                rw [add_spot, Nat.zero_add]
                have : cur[j]? = some u := by
                  rw [← h6, List.getElem?_take] at hj
                  split at hj
                  · rwa [Array.getElem?_toList] at hj
                  · cases hj
                simp [World.cell?, hb, this]
              have hr := run_append_grow (P := P) w t ty e0 i z0 hu hi hz ⟨B, 0, none⟩ m cap xs hxl holds ⟨Bn, 0, none⟩ q q news hl hnews (by omega) (by simp only [maxLen] at h63; omega) (growslice_fits (by omega) hby)
              exact opsW_value (hg.wanted hf) rfl (hgo _ _ hr) (k _ [(w.heap.size, _)] _ _ (fresh cap (by omega)) (hf.put (blt_lt hn) _) (hal _))
        · simp at ht
      · simp at ht
    · simp at ht
  · simp at ht
end
end Go.Sy
