/- Lemmas, in order: Maps whose keys are arrays of integers; maps of values of any kind.. -/
import Derived.Test.YtidieepndphodaaGreatQ14
namespace Go.Sy
open Go Go.Proofs
section
variable {P : Program}
theorem run_arrI {e : TypeId} {k : IntKind} (he : P.underlying e = some (.int k)) (X Y : Array Value) (d : Nat) (w : World) : ∀ (p q : List Int) (s : Nat), p.length = q.length →
    (∀ j a, p[j]? = some a → X[s + j]? = some (.int k a)) → (∀ j a, q[j]? = some a → Y[s + j]? = some (.int k a)) →
    (Op.eqItems (d + 1) e 1 X Y (List.range' s p.length)).run P w = .ok (decide (p = q)) w
  | [], q, s, hl, _, _ => by
    have h2 : q = [] := List.eq_nil_of_length_eq_zero hl.symm
    subst h2
    simp [Op.eqItems]
  | a :: p, [], s, hl, _, _ => by simp at hl
  | a :: p, b :: q, s, hl, hX, hY => by
    have hs : scalB P e = true := by unfold scalB; rw [he]
    have h1 := hX 0 a rfl
    have h2 := hY 0 b rfl
    have h4 := run_arrI he X Y d w p q (s + 1) (by simpa using hl) (fun j c hc => by rw [Nat.add_right_comm]; exact hX (j + 1) c hc) (fun j c hc => by rw [Nat.add_right_comm]; exact hY (j + 1) c hc)
    have h3 : (Op.equalIn (d + 1) e (.int k a) (.int k b)).run P w = .ok (decide (a = b)) w := by
      rw [run_equalIn_int w d e k k a b he]
      rfl
    rw [List.length_cons, List.range'_succ]
    rw [Nat.add_zero] at h1 h2
    simp only [Op.eqItems, Nat.mul_one, Sem.run_bind, part, run_isAgg_scal hs, h1, h2, Result.andThen_ok, Bool.false_eq_true, if_false, Sem.run_pure, h3]
    by_cases e : a = b
    · subst e; simp [h4]
    · simp [e]
theorem run_arrC {e : TypeId} {k : IntKind} {ti : TypeInfo} (he : P.underlying e = some (.int k)) (hi : P.info? e = some ti) (b : Bool) (X : Array Value) (d : Nat) (w : World) : ∀ (is : List Nat), (∀ i ∈ is, ∃ a, X[i * P.cellsOf e]? = some (.int k a)) →
    (forIn is PUnit.unit (fun i (_ : PUnit) => (do Instr.checkKey b (d + 1) e (← part e X (i * (← sizeOf e))); pure (ForInStep.yield PUnit.unit) : Sem (ForInStep PUnit)))).run P w = .ok PUnit.unit w
  | [], _ => by simp
  | i :: is, h => by
    have hs : scalB P e = true := by unfold scalB; rw [he]
    obtain ⟨a, h1⟩ := h i (by simp)
    have h4 := run_arrC he hi b X d w is fun j hj => h j (by simp [hj])
    rw [List.forIn_cons]
    simp only [Sem.run_bind, run_sizeOf w hi, part, run_isAgg_scal hs, h1, Result.andThen_ok, Bool.false_eq_true, if_false, Sem.run_pure, Instr.checkKey, run_underlying he]
    exact h4
/-- Keys that are arrays of integers. -/
theorem keyArr {t e : TypeId} {n : Nat} {k : IntKind} {κ : Type} [DecidableEq κ] (ints : κ → List Int) (inj : ∀ p q, ints p = ints q → p = q) (hl : ∀ p, (ints p).length = n)
    (hu : P.underlying t = some (.array n e)) (he : P.underlying e = some (.int k)) (hc : P.cellsOf e = 1) (hi : (P.info? e).isSome = true) :
    KeyOk P t (fun p => .agg ((ints p).map (Value.int k)).toArray) := by
  obtain ⟨i, hi⟩ := Option.isSome_iff_exists.1 hi
  refine ⟨fun p q w => ?_, fun b p w => ?_, ⟨_, hu, fun p q => rfl⟩, fun p => ?_⟩
  · show (Op.equalIn 10000 t _ _).run P w = _
    rw [show (10000 : Nat) = 9998 + 1 + 1 from rfl, run_equalIn_array w 9999 _ _ hu hi, hc, List.range_eq_range', ← hl p]
    rw [run_arrI he _ _ 9998 w (ints p) (ints q) 0 (by rw [hl, hl]) (fun j a h => by rw [Nat.zero_add]; simp [h]) (fun j a h => by rw [Nat.zero_add]; simp [h])]
    congr 1
    by_cases h : p = q
    · subst h; simp
    · rw [decide_eq_false h, decide_eq_false fun h' => h (inj _ _ h')]
  · have key : ∀ m : Nat, (Instr.checkKey b (m + 1 + 1) t (.agg ((ints p).map (Value.int k)).toArray)).run P w = .ok () w := fun m => by
      unfold Instr.checkKey
      simp only [Sem.run_bind, run_underlying hu, Result.andThen_ok, run_sizeOf w hi]
      simp only [Std.Legacy.Range.forIn_eq_forIn_range', Std.Legacy.Range.size, Nat.sub_zero, Nat.add_one_sub_one, Nat.div_one]
      have h2 := run_arrC he hi b ((ints p).map (Value.int k)).toArray m w (List.range' 0 n) fun i hi => by
        rw [List.mem_range'_1] at hi
        rw [hc, Nat.mul_one]
        have h3 : i < (ints p).length := by rw [hl]; omega
        exact ⟨(ints p)[i], by simp [List.getElem?_eq_getElem h3]⟩
      simp only [bind_pure_comp] at h2 ⊢
      rw [h2]
      rfl
    exact key 9998
  · have e : ∀ (m : Nat) (x : Int), Instr.sameBits m (.int k x) (.int k x) = true := fun m x => by cases m <;> simp [Instr.sameBits]
    show Instr.sameBits (9999 + 1) _ _ = true
    simp only [Instr.sameBits, beq_self_eq_true, Bool.true_and, List.all_eq_true]
    intro x hx
    obtain ⟨x1, x2⟩ := x
    rw [List.zip_eq_zipWith, List.mem_iff_getElem?] at hx
    obtain ⟨j, hj⟩ := hx
    rw [List.getElem?_zipWith, List.getElem?_map] at hj
    cases h : (ints p)[j]? with
    | none => rw [h] at hj; simp at hj
    | some v => rw [h] at hj; simp at hj; obtain ⟨rfl, rfl⟩ := hj; exact e _ _
end
/-- Each entry of a map is what it should be. -/
def MemoV {κ : Type} (enc : κ → Value) (F : κ → Value) (es : Array MapEntry) : Prop := ∀ e ∈ es.toList, ∃ p, e.key = enc p ∧ e.val = F p
theorem MemoV.nil {κ : Type} (enc : κ → Value) (F : κ → Value) : MemoV enc F #[] := fun e h => by simp at h
section
variable {P : Program} {κ : Type} [DecidableEq κ] {enc : κ → Value} {ke : TypeId} {F : κ → Value}
theorem ask_memoV (hk : KeyOk P ke enc) (p : κ) : ∀ (l : List MapEntry) (i : Nat), (∀ e ∈ l, ∃ q, e.key = enc q ∧ e.val = F q) →
    (∃ j, (∀ w, (Instr.findAsking ke (enc p) l i).run P w = .ok (some (j, F p)) w) ∧ ∃ e, l[j - i]? = some e ∧ i ≤ j ∧ e.key = enc p) ∨ ∀ w, (Instr.findAsking ke (enc p) l i).run P w = .ok none w
  | [], i, _ => .inr fun _ => rfl
  | e :: l, i, h => by
    obtain ⟨q, hq, hv⟩ := h e (by simp)
    have h0 := hk.eq p q
    by_cases hpq : p = q
    · subst hpq
      exact .inl ⟨i, fun w => by simp [Instr.findAsking, hq, h0 w, hv], e, by simp, Nat.le_refl _, hq⟩
    · rcases ask_memoV hk p l (i + 1) (fun e he => h e (by simp [he])) with ⟨j, h2, e', h3, h4, h5⟩ | h2
      · refine .inl ⟨j, fun w => by simp [Instr.findAsking, hq, h0 w, hpq, h2 w], e', ?_, by omega, h5⟩
        rw [show j - i = (j - (i + 1)) + 1 by omega]; simpa using h3
      · exact .inr fun w => by simp [Instr.findAsking, hq, h0 w, hpq, h2 w]
theorem find_memoV (hk : KeyOk P ke enc) (p : κ) {es : Array MapEntry} (hm : MemoV enc F es) :
    (∃ j, (∀ w, (Instr.findKey ke (enc p) es.toList).run P w = .ok (some (j, F p)) w) ∧ ∃ e, es[j]? = some e ∧ e.key = enc p) ∨ ∀ w, (Instr.findKey ke (enc p) es.toList).run P w = .ok none w := by
  obtain ⟨td, h1, h2⟩ := hk.kind
  have hn : ∀ l : List MapEntry, (∀ e ∈ l, ∃ q, e.key = enc q ∧ e.val = F q) → l ≠ [] → Instr.findNow td (enc p) l 0 = none := fun l hl hne => by
    cases l with
    | nil => exact absurd rfl hne
    | cons e l =>
      obtain ⟨q, hq, _⟩ := hl e (by simp)
      simp [Instr.findNow, hq, h2]
  by_cases he : es.toList = []
  · refine .inr fun w => ?_
    rw [he]
    simp [Instr.findKey, run_underlying h1, Instr.findNow]
  · rcases ask_memoV hk p es.toList 0 hm with ⟨j, h3, e, h4, _, h5⟩ | h3
    · refine .inl ⟨j, fun w => by simp [Instr.findKey, run_underlying h1, hn _ hm he, h3 w], e, ?_, h5⟩
      rw [Nat.sub_zero, Array.getElem?_toList] at h4; exact h4
    · exact .inr fun w => by simp [Instr.findKey, run_underlying h1, hn _ hm he, h3 w]
variable {C : World → Prop} {L : List (Nat × Value)} {dd : Option Tmp} {ty : TypeId} {pos : String} {af : Array Edge} {gd : Option (Nat × Bool)}
theorem yv_lookupV {t el : TypeId} {x y : Operand} {bm c : Nat} {es : Array MapEntry} {p : κ} {z : Value} (hk : KeyOk P ke enc) (ht : mapKE P t = some (ke, el)) (hz : zeroOf P el = some z) (hx : ev L x = some (.map (some bm))) (hy : ev L y = some (enc p)) (hm : MemoV enc F es)
    (hb : ∀ w, C w → w.heap[bm]? = some (.map es c)) :
    ∃ b : Bool, Yv P C L ⟨dd, .lookup t x y true, ty, pos, af, gd⟩ (.tuple #[if b then F p else z, .bool b]) := by
  have h1 := mapKE_eq ht
  have hg : ∀ w, C w → (getObj bm).run P w = .ok (.map es c) w := fun w hw => by simp [getObj, Sem.run, hb w hw]
  have hc := hk.chk es.isEmpty p
  rcases find_memoV hk p hm with ⟨j, a1, _⟩ | a1
  · exact ⟨true, fun ρ hρ w hw => by simp [execOp, hρ _ _ hx, hρ _ _ hy, Instr.lookup, run_underlying h1, hg w hw, hc w, a1 w]⟩
  · exact ⟨false, fun ρ hρ w hw => by simp [execOp, hρ _ _ hx, hρ _ _ hy, Instr.lookup, run_underlying h1, hg w hw, hc w, a1 w, run_zero hz]⟩
variable {r : Option Nat} {all : Array Oper} {Q : Exit → Act → World → Prop} {rest : List Oper} {a : Act} {w w0 : World} {M : List Nat} {H : List (Nat × Obj)} {n : Nat} {ds : List Deferred} {d : Nat}
theorem ops_lookupV {t el : TypeId} {x y : Operand} {bm c i : Nat} {es : Array MapEntry} {p : κ} {z : Value} (hf : Fr n ds L a) (hh : Hp w0 M H w) (hk : KeyOk P ke enc) (ht : mapKE P t = some (ke, el)) (hz : zeroOf P el = some z)
    (hx : ev L x = some (.map (some bm))) (hy : ev L y = some (enc p)) (hi : H[i]? = some (bm, .map es c)) (hm : MemoV enc F es) (hg : GOn all L ⟨some d, .lookup t x y true, ty, pos, af, gd⟩) (hn : Nat.blt d n = true)
    (K : ∀ (b : Bool) (a : Act), Fr n ds ((d, .tuple #[if b then F p else z, .bool b]) :: L) a → OpsW P r all Q rest a w) : OpsW P r all Q (⟨some d, .lookup t x y true, ty, pos, af, gd⟩ :: rest) a w := by
  obtain ⟨b, hb⟩ := yv_lookupV (C := Hp w0 M H) (dd := some d) (ty := ty) (pos := pos) (af := af) (gd := gd) hk ht hz hx hy hm (fun w hw => hw.at hi)
  exact o_v hf hh hb (fun a hf => K b a hf) (hg := hg) (hn := hn)
theorem oq_lookupV {Q : Act → Prop} {t el : TypeId} {x y : Operand} {bm c i : Nat} {es : Array MapEntry} {p : κ} {z : Value} (hf : Fr n ds L a) (hk : KeyOk P ke enc) (ht : mapKE P t = some (ke, el)) (hz : zeroOf P el = some z)
    (hx : ev L x = some (.map (some bm))) (hy : ev L y = some (enc p)) (hi : H[i]? = some (bm, .map es c)) (hm : MemoV enc F es) (hg : GOn all L ⟨some d, .lookup t x y true, ty, pos, af, gd⟩) (hn : Nat.blt d n = true)
    (K : ∀ (b : Bool) (a : Act), Fr n ds ((d, .tuple #[if b then F p else z, .bool b]) :: L) a → wpQuiet P all (Hp w0 M H) Q rest a) : wpQuiet P all (Hp w0 M H) Q (⟨some d, .lookup t x y true, ty, pos, af, gd⟩ :: rest) a := by
  obtain ⟨b, hb⟩ := yv_lookupV (C := Hp w0 M H) (dd := some d) (ty := ty) (pos := pos) (af := af) (gd := gd) hk ht hz hx hy hm (fun w hw => hw.at hi)
  exact oq_v hf hb (fun a hf => K b a hf) (hg := hg) (hn := hn)
theorem ops_mapUpdateV {t el : TypeId} {x y z : Operand} {bm c i : Nat} {es : Array MapEntry} {p : κ} (hf : Fr n ds L a) (hh : Hp w0 M H w) (hk : KeyOk P ke enc) (ht : mapKE P t = some (ke, el)) (hx : ev L x = some (.map (some bm))) (hy : ev L y = some (enc p))
    (hv : ev L z = some (F p)) (hi : H[i]? = some (bm, .map es c)) (hm : MemoV enc F es) (hg : GOn all L ⟨none, .mapUpdate t x y z, ty, pos, af, gd⟩)
    (K : ∀ (es' : Array MapEntry) (c' : Nat) (w : World), MemoV enc F es' → Hp w0 M (H.set i (bm, .map es' c')) w → OpsW P r all Q rest a w) : OpsW P r all Q (⟨none, .mapUpdate t x y z, ty, pos, af, gd⟩ :: rest) a w := by
  have h1 := mapKE_eq ht
  have hb := hh.at hi
  have hgo : (getObj bm).run P w = .ok (.map es c) w := by simp [getObj, Sem.run, hb]
  have hc := hk.chk false p w
  have hset : ∀ o, (setObj bm o).run P w = .ok () (w.putObj bm o) := fun o => by simp [setObj, Sem.run, hb, World.putObj]
  have hfm := find_memoV hk p hm
  rcases hfm with ⟨j, a2, e, hej, a5⟩ | a2
  all_goals replace a2 := a2 w
  · have hkeep : (Instr.keyThatStays (((es[j]?).map (·.key)).getD (enc p)) (enc p)).run P w = .ok (enc p) w := by
      rw [hej]; simp [a5, Instr.keyThatStays, hk.bits]
    refine opsW_skip (w' := w.putObj bm (.map (es.modify j fun e => { e with key := enc p, val := F p }) c)) (hg.wanted hf) rfl ?_ (K _ _ _ ?_ (hh.put hi _))
    · simp [execOp, hf.agree _ _ hx, hf.agree _ _ hy, hf.agree _ _ hv, Instr.mapUpdate, run_underlying h1, hgo, hc, a2, hkeep, hset]
    · intro e' he'
      rw [Array.mem_toList_iff] at he'
      obtain ⟨q, hq, rfl⟩ := Array.getElem_of_mem he'
      rw [Array.getElem_modify]
      split
      · exact ⟨p, rfl, rfl⟩
      · exact hm _ (Array.mem_toList_iff.2 (Array.getElem_mem _))
  · refine opsW_skip (w' := w.putObj bm (.map (es.push { key := enc p, val := F p, born := c }) (c + 1))) (hg.wanted hf) rfl ?_ (K _ _ _ ?_ (hh.put hi _))
    · simp [execOp, hf.agree _ _ hx, hf.agree _ _ hy, hf.agree _ _ hv, Instr.mapUpdate, run_underlying h1, hgo, hc, a2, hset]
    · intro e' he'
      rw [Array.toList_push, List.mem_append] at he'
      rcases he' with he' | he'
      · exact hm e' he'
      · simp at he'; subst he'; exact ⟨p, rfl, rfl⟩
end
end Go.Sy
