/- Lemmas, in order: The engine: a deferred call with arguments; interfaces that are not nil. Maps whose keys are integers, as what they hold: a function from keys to values. The engine: fields of values.. -/
import Derived.Test.YtccpgpnekoncoaaGreatQ4
namespace Go.Sy
open Go Go.Proofs Go.RowKit
section
variable {P : Program} {fn : Func} {R : Value → World → Prop} {n : Nat} {L : List (Nat × Value)} {a : Act} {w w0 : World} {M : List Nat}
/-- Behind the last deferred call, which was handed something. -/
theorem ret_da {f : FuncId} {args : Array Value} {Ds : List Nat} {H : List (Nat × Obj)} (hf : Fr n (mkd Ds ++ [⟨.fn (.func f) #[], args⟩]) L a) (hh : Hp w0 M (dls Ds ++ H) w) (hE : Enters P f)
    (hc : ∀ w', CallsDIn (FR none) 0 P f args .returning w' (fun e u' w'' => (∃ v, e = .returned v) ∧ u' = .returning ∧ Ext [] w' w''))
    (k : ∀ w', Hp w0 M H w' → ∃ vs, ResAt P L w' fn.results.toList vs ∧ R (tup vs) w') : bodyPostM (FR none) 0 P fn (Ret R) .ret a w := by
  show LeavesInM (FR none) 0 P fn a.tmps (Ret R) a.defers .returning w
  rw [hf.defers]
  refine leaves_marksU (by simp) Ds H w hh fun w' hw' => ?_
  refine leaves_call (args := args) (by simp) hE ?_
  rw [Array.append_empty]
  refine (hc w').mono fun e u' w'' he => ?_
  obtain ⟨⟨v, rfl⟩, rfl, hx⟩ := he
  obtain ⟨vs, h1, h2⟩ := k w'' (hw'.more hx)
  have hf0 : Fr n [] L { a with defers := [] } := ⟨hf.size, rfl, hf.get⟩
  exact ⟨v, rfl, _, run_resultsC (a := { a with defers := [] }) hf0 h1, h2⟩
theorem pan_da {f : FuncId} {args : Array Value} {Ds : List Nat} {H : List (Nat × Obj)} {v : Value} {R2 : World → World → Prop} (hf : Fr n (mkd Ds ++ [⟨.fn (.func f) #[], args⟩]) L a) (hh : Hp w0 M (dls Ds ++ H) w) (hE : Enters P f)
    (hc : ∀ w', Hp w0 M H w' → CallsDIn (FR none) 0 P f args (.panicking [{ v := v, recovered := false }]) w' (fun e u' w'' => (∃ v, e = .returned v) ∧ u' = .panicking [{ v := v, recovered := true }] ∧ R2 w' w''))
    (k : ∀ w' w'', Hp w0 M H w' → R2 w' w'' → ∃ vs, ResAt P L w'' fn.results.toList vs ∧ R (tup vs) w'') : bodyPostM (FR none) 0 P fn (Ret R) (.panic [{ v := v, recovered := false }]) a w := by
  show LeavesInM (FR none) 0 P fn a.tmps (Ret R) a.defers (.panicking _) w
  rw [hf.defers]
  refine leaves_marksU (by simp) Ds H w hh fun w' hw' => ?_
  refine leaves_call (args := args) (by simp) hE ?_
  rw [Array.append_empty]
  refine (hc w' hw').mono fun e u' w'' he => ?_
  obtain ⟨⟨v', rfl⟩, rfl, hx⟩ := he
  obtain ⟨vs, h1, h2⟩ := k w' w'' hw' hx
  have hf0 : Fr n [] L { a with defers := [] } := ⟨hf.size, rfl, hf.get⟩
  exact ⟨v', rfl, _, run_resultsC (a := { a with defers := [] }) hf0 h1, h2⟩
end
section
variable {P : Program} {C : World → Prop} {L : List (Nat × Value)} {dd : Option Tmp} {ty : TypeId} {pos : String} {af : Array Edge} {gd : Option (Nat × Bool)}
theorem yv_neqNil {t t' : TypeId} {x y : Operand} (ht : ifaceB P t = true) (hx : ev L x = some .nilIface) (hy : y = .const .nilIface) :
    Yv P C L ⟨dd, .binOp .neq t x y t', ty, pos, af, gd⟩ (.bool false) := fun ρ hρ w _ => by
  subst hy
  have h0 : ρ (.const .nilIface) = .nilIface := hρ _ _ rfl
  have e : (binOp .neq t .nilIface .nilIface).run P w = .ok (.bool false) w := by
    show (do pure (.bool (!(← Op.equal t .nilIface .nilIface))) : Sem Value).run P w = _
    rw [Sem.run_bind, show (Op.equal t .nilIface .nilIface).run P w = .ok true w from (run_eqNil 9999 ht w).1]; rfl
  have g : (eqGuard .neq t x (.const .nilIface) .nilIface .nilIface).run P w = .ok () w := by simp [eqGuard]
  simp only [execOp, hρ _ _ hx, h0, Sem.run_bind, g, Result.andThen_ok, e, Sem.run_pure]
theorem yv_neqSome {t t' tx : TypeId} {v : Value} {x y : Operand} (ht : ifaceB P t = true) (hx : ev L x = some (.iface tx v)) (hy : y = .const .nilIface) :
    Yv P C L ⟨dd, .binOp .neq t x y t', ty, pos, af, gd⟩ (.bool true) := fun ρ hρ w _ => by
  subst hy
  have h0 : ρ (.const .nilIface) = .nilIface := hρ _ _ rfl
  have e : (binOp .neq t (.iface tx v) .nilIface).run P w = .ok (.bool true) w := by
    show (do pure (.bool (!(← Op.equal t (.iface tx v) .nilIface))) : Sem Value).run P w = _
    rw [Sem.run_bind, show (Op.equal t (.iface tx v) .nilIface).run P w = .ok false w from (run_eqNil 9999 ht w).2 tx v]; rfl
  have g : (eqGuard .neq t x (.const .nilIface) (.iface tx v) .nilIface).run P w = .ok () w := by simp [eqGuard]
  simp only [execOp, hρ _ _ hx, h0, Sem.run_bind, g, Result.andThen_ok, e, Sem.run_pure]
end
end Go.Sy

namespace Go.Sy
open Go Go.Proofs Go.RowKit
/-- What the first entry with this key holds. -/
def askL (p : Int) : List MapEntry → Option Value
  | [] => none
  | e :: l => if (match e.key with | .int _ n => n == p | _ => false) = true then some e.val else askL p l
structure MapI (k : IntKind) (m : Int → Option Value) (es : Array MapEntry) : Prop where
  keys : ∀ e ∈ es.toList, ∃ n, e.key = .int k n
  get : ∀ p, askL p es.toList = m p
theorem MapI.nil (k : IntKind) : MapI k (fun _ => none) #[] := ⟨fun e h => by simp at h, fun _ => rfl⟩
def putM (m : Int → Option Value) (p : Int) (v : Value) : Int → Option Value := fun q => if q = p then some v else m q
theorem ask_hd {k : IntKind} {n p : Int} {e : MapEntry} {l : List MapEntry} (h : e.key = .int k n) : askL p (e :: l) = if n = p then some e.val else askL p l := by
  show (if (match e.key with | .int _ n => n == p | _ => false) = true then some e.val else askL p l) = _
  rw [h]
  by_cases hn : n = p
  · simp [hn]
  · simp [hn]
theorem ask_app {k : IntKind} {p : Int} {v : Value} {c : Nat} (q : Int) : ∀ (l : List MapEntry), (∀ e ∈ l, ∃ n, e.key = .int k n) → askL p l = none → askL q (l ++ [{ key := .int k p, val := v, born := c }]) = if q = p then some v else askL q l
  | [], _, _ => by
    rw [List.nil_append, ask_hd (k := k) (n := p) rfl]
    by_cases h : q = p
    · rw [if_pos h, if_pos h.symm]
    · rw [if_neg h, if_neg (Ne.symm h)]
  | e :: l, hk, hn => by
    obtain ⟨n, he⟩ := hk e (.head _)
    rw [ask_hd he] at hn
    split at hn
    · cases hn
    · rename_i hnp
      have ih := ask_app (k := k) (p := p) (v := v) (c := c) q l (fun e he => hk e (.tail _ he)) hn
      rw [List.cons_append, ask_hd he, ask_hd he, ih]
      by_cases h1 : n = q
      · subst h1
        rw [if_pos rfl, if_neg hnp, if_pos rfl]
      · rw [if_neg h1, if_neg h1]
theorem find_ask {k : IntKind} {p : Int} : ∀ (l : List MapEntry) (i : Nat), (∀ e ∈ l, ∃ n, e.key = .int k n) →
    (∃ j v e, askL p l = some v ∧ Instr.findNow (.int k) (.int k p) l i = some (some (i + j, v)) ∧ l[j]? = some e ∧ e.key = .int k p ∧ ∀ (v' : Value) (q : Int), askL q (l.modify j fun e => { e with key := .int k p, val := v' }) = if q = p then some v' else askL q l) ∨
    (askL p l = none ∧ Instr.findNow (.int k) (.int k p) l i = some none)
  | [], i, _ => .inr ⟨rfl, rfl⟩
  | e :: l, i, h => by
    obtain ⟨n, hn⟩ := h e (.head _)
    by_cases hnp : n = p
    · subst hnp
      refine .inl ⟨0, e.val, e, by rw [ask_hd hn, if_pos rfl], by simp [Instr.findNow, Instr.sameNow, hn], rfl, hn, fun v' q => ?_⟩
      show askL q (_ :: l) = _
      rw [ask_hd (k := k) (n := n) rfl, ask_hd hn]
      by_cases h1 : q = n
      · subst h1; rw [if_pos rfl, if_pos rfl]
      · rw [if_neg (Ne.symm h1), if_neg h1, if_neg (Ne.symm h1)]
    · have ih := find_ask (k := k) (p := p) l (i + 1) (fun e he => h e (.tail _ he))
      have e1 : (p == n) = false := by simp; omega
      rcases ih with ⟨j, v, e', h1, h2, h3, h4, h5⟩ | ⟨h1, h2⟩
      · refine .inl ⟨j + 1, v, e', by rw [ask_hd hn, if_neg hnp, h1], by simp [Instr.findNow, Instr.sameNow, hn, e1, h2]; omega, by simpa using h3, h4, fun v' q => ?_⟩
        show askL q (e :: l.modify j _) = _
        rw [ask_hd hn, ask_hd hn, h5]
        by_cases h6 : n = q
        · subst h6; rw [if_pos rfl, if_neg hnp, if_pos rfl]
        · rw [if_neg h6, if_neg h6]
      · exact .inr ⟨by rw [ask_hd hn, if_neg hnp, h1], by simp [Instr.findNow, Instr.sameNow, hn, e1, h2]⟩
theorem modify_keys {k : IntKind} {p : Int} {v : Value} {es : Array MapEntry} {j : Nat} (h : ∀ e ∈ es.toList, ∃ n, e.key = .int k n) : ∀ e ∈ (es.modify j fun e => { e with key := .int k p, val := v }).toList, ∃ n, e.key = .int k n := fun e he => by
  rw [Array.mem_toList_iff] at he
  obtain ⟨q, hq, rfl⟩ := Array.getElem_of_mem he
  rw [Array.getElem_modify]
  split
  · exact ⟨p, rfl⟩
  · exact h _ (Array.mem_toList_iff.2 (Array.getElem_mem _))
section
variable {P : Program} {C : World → Prop} {L : List (Nat × Value)} {dd : Option Tmp} {ty : TypeId} {pos : String} {af : Array Edge} {gd : Option (Nat × Bool)}
theorem yv_getI {t ke el : TypeId} {k : IntKind} {m : Int → Option Value} {x y : Operand} {bm c : Nat} {es : Array MapEntry} {p : Int} {z : Value} (ht : mapTypes P t = some (ke, el, k)) (hz : zeroOf P el = some z) (hx : ev L x = some (.map (some bm))) (hy : ev L y = some (.int k p))
    (hb : ∀ w, C w → w.heap[bm]? = some (.map es c)) (hm : MapI k m es) :
    Yv P C L ⟨dd, .lookup t x y false, ty, pos, af, gd⟩ ((m p).getD z) := fun ρ hρ w hw => by
  obtain ⟨h1, h2⟩ := mapTypes_eq ht
  have hg : (getObj bm).run P w = .ok (.map es c) w := by simp [getObj, Sem.run, hb w hw]
  have hc := run_checkKey_int' (P := P) (w := w) (b := es.isEmpty) (p := p) h2
  rw [← hm.get p]
  rcases find_ask (k := k) (p := p) es.toList 0 hm.keys with ⟨j, v, e, a1, a2, _⟩ | ⟨a1, a2⟩
  · simp [execOp, hρ _ _ hx, hρ _ _ hy, Instr.lookup, run_underlying h1, hg, hc, Instr.findKey, run_underlying h2, a2, a1]
  · simp [execOp, hρ _ _ hx, hρ _ _ hy, Instr.lookup, run_underlying h1, hg, hc, Instr.findKey, run_underlying h2, a2, a1, run_zero hz]
theorem yv_getI2 {t ke el : TypeId} {k : IntKind} {m : Int → Option Value} {x y : Operand} {bm c : Nat} {es : Array MapEntry} {p : Int} {z : Value} (ht : mapTypes P t = some (ke, el, k)) (hz : zeroOf P el = some z) (hx : ev L x = some (.map (some bm))) (hy : ev L y = some (.int k p))
    (hb : ∀ w, C w → w.heap[bm]? = some (.map es c)) (hm : MapI k m es) :
    Yv P C L ⟨dd, .lookup t x y true, ty, pos, af, gd⟩ (.tuple #[(m p).getD z, .bool (m p).isSome]) := fun ρ hρ w hw => by
  obtain ⟨h1, h2⟩ := mapTypes_eq ht
  have hg : (getObj bm).run P w = .ok (.map es c) w := by simp [getObj, Sem.run, hb w hw]
  have hc := run_checkKey_int' (P := P) (w := w) (b := es.isEmpty) (p := p) h2
  rw [← hm.get p]
  rcases find_ask (k := k) (p := p) es.toList 0 hm.keys with ⟨j, v, e, a1, a2, _⟩ | ⟨a1, a2⟩
  · simp [execOp, hρ _ _ hx, hρ _ _ hy, Instr.lookup, run_underlying h1, hg, hc, Instr.findKey, run_underlying h2, a2, a1]
  · simp [execOp, hρ _ _ hx, hρ _ _ hy, Instr.lookup, run_underlying h1, hg, hc, Instr.findKey, run_underlying h2, a2, a1, run_zero hz]
end
section
variable {P : Program} {r : Option Nat} {all : Array Oper} {Q : Exit → Act → World → Prop} {rest : List Oper} {a : Act} {w w0 : World} {M : List Nat} {H : List (Nat × Obj)} {n : Nat} {ds : List Deferred} {L : List (Nat × Value)} {v : Value} {d : Nat}
  {ty : TypeId} {pos : String} {af : Array Edge} {gd : Option (Nat × Bool)}
theorem run_mapI {t ke el : TypeId} {k : IntKind} {m : Int → Option Value} {bm c : Nat} {es : Array MapEntry} {p : Int} (ht : mapTypes P t = some (ke, el, k)) (hb : w.heap[bm]? = some (.map es c)) (hm : MapI k m es) (v : Value) :
    ∃ es' c', (Instr.mapUpdate t (.map (some bm)) (.int k p) v).run P w = .ok () (w.putObj bm (.map es' c')) ∧ MapI k (putM m p v) es' := by
  obtain ⟨h1, h2⟩ := mapTypes_eq ht
  have hgo : (getObj bm).run P w = .ok (.map es c) w := by simp [getObj, Sem.run, hb]
  have hc := run_checkKey_int' (P := P) (w := w) (b := false) (p := p) h2
  have hset : ∀ o, (setObj bm o).run P w = .ok () (w.putObj bm o) := fun o => by simp [setObj, Sem.run, hb, World.putObj]
  rcases find_ask (k := k) (p := p) es.toList 0 hm.keys with ⟨j, v0, e, _, a2, a3, a4, a5⟩ | ⟨a1, a2⟩
  · rw [Nat.zero_add] at a2
    have hej : es[j]? = some e := by rw [← Array.getElem?_toList]; exact a3
    have hkeep : (Instr.keyThatStays (((es[j]?).map (·.key)).getD (.int k p)) (.int k p)).run P w = .ok (.int k p) w := by
      rw [hej]; simp [a4, Instr.keyThatStays, Instr.sameBits]
    refine ⟨es.modify j fun e => { e with key := .int k p, val := v }, c, ?_, modify_keys hm.keys, fun q => ?_⟩
    · simp [Instr.mapUpdate, run_underlying h1, hgo, hc, Instr.findKey, run_underlying h2, a2, hkeep, hset]
    · rw [Array.toList_modify, a5, hm.get]; rfl
  · refine ⟨es.push { key := .int k p, val := v, born := c }, c + 1, ?_, fun e he => ?_, fun q => ?_⟩
    · simp [Instr.mapUpdate, run_underlying h1, hgo, hc, Instr.findKey, run_underlying h2, a2, hset]
    · rw [Array.toList_push, List.mem_append] at he
      rcases he with he | he
      · exact hm.keys e he
      · rw [List.mem_singleton.1 he]; exact ⟨p, rfl⟩
    · rw [Array.toList_push, ask_app q _ hm.keys a1, hm.get]; rfl
theorem ops_putI {t ke el : TypeId} {k : IntKind} {m : Int → Option Value} {x y z : Operand} {bm c i : Nat} {es : Array MapEntry} {p : Int} (hf : Fr n ds L a) (hh : Hp w0 M H w) (ht : mapTypes P t = some (ke, el, k)) (hx : ev L x = some (.map (some bm))) (hy : ev L y = some (.int k p))
    (hv : ev L z = some v) (hi : H[i]? = some (bm, .map es c)) (hm : MapI k m es) (hg : GOn all L ⟨none, .mapUpdate t x y z, ty, pos, af, gd⟩)
    (K : ∀ (es' : Array MapEntry) (c' : Nat) (w : World), MapI k (putM m p v) es' → Hp w0 M (H.set i (bm, .map es' c')) w → OpsW P r all Q rest a w) : OpsW P r all Q (⟨none, .mapUpdate t x y z, ty, pos, af, gd⟩ :: rest) a w := by
  obtain ⟨es', c', h1, h2⟩ := run_mapI ht (hh.at hi) hm (p := p) v
  refine opsW_skip (w' := w.putObj bm (.map es' c')) (hg.wanted hf) rfl ?_ (K es' c' _ h2 (hh.put hi _))
  simp [execOp, hf.agree _ _ hx, hf.agree _ _ hy, hf.agree _ _ hv, h1]
theorem ops_insI {t ke el : TypeId} {k : IntKind} {m : Int → Option Value} {x y z : Operand} {bm c i : Nat} {es : Array MapEntry} {p : Int} (hf : Fr n ds L a) (hh : Hp w0 M H w) (ht : mapTypes P t = some (ke, el, k)) (hx : ev L x = some (.map (some bm))) (hy : ev L y = some (.int k p))
    (hv : ev L z = some v) (hi : H[i]? = some (bm, .map es c)) (hm : MapI k m es) (hg : GOn all L ⟨none, .insert t x y z, ty, pos, af, gd⟩)
    (K : ∀ (es' : Array MapEntry) (c' : Nat) (w : World), MapI k (putM m p v) es' → Hp w0 M (H.set i (bm, .map es' c')) w → OpsW P r all Q rest a w) : OpsW P r all Q (⟨none, .insert t x y z, ty, pos, af, gd⟩ :: rest) a w := by
  obtain ⟨es', c', h1, h2⟩ := run_mapI ht (hh.at hi) hm (p := p) v
  refine opsW_skip (w' := w.putObj bm (.map es' c')) (hg.wanted hf) rfl ?_ (K es' c' _ h2 (hh.put hi _))
  simp [execOp, hf.agree _ _ hx, hf.agree _ _ hy, hf.agree _ _ hv, h1]
end
end Go.Sy

namespace Go.Sy
open Go Go.Proofs Go.RowKit
def fieldS (P : Program) (t : TypeId) (f : Nat) : Option Nat := match P.underlying t with
  | some (.struct fs) => match fs[f]? with
    | some fl => if scalB P fl.type = true then some fl.offset else none
    | none => none
  | _ => none
section
variable {P : Program} {C : World → Prop} {L : List (Nat × Value)} {dd : Option Tmp} {ty : TypeId} {pos : String} {af : Array Edge} {gd : Option (Nat × Bool)}
theorem yv_fieldS {t : TypeId} {x : Operand} {f k : Nat} {cs : Array Value} {v : Value} (ht : fieldS P t f = some k) (hx : ev L x = some (.agg cs)) (hv : cs[k]? = some v) : Yv P C L ⟨dd, .field t x f, ty, pos, af, gd⟩ v := by
  unfold fieldS at ht
  split at ht
  · rename_i fs hfs
    split at ht
    · rename_i fl hfl
      split at ht
      · rename_i hs
        cases ht
        exact yv_field hfs hfl hs hx hv
      · cases ht
    · cases ht
  · cases ht
end
end Go.Sy

