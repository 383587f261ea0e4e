/- Lemmas, in order: The engine: a deferred closure that recovers and calls; interfaces. The engine: how a function leaves that defers a closure which recovers. Maps whose keys are arrays of integers; maps of values of any kind. Blocks that hold what they held, and that the rounds of a range do not turn. Ranges over iterators with blocks of their own, where the rounds turn known blocks alone. What an iterator knows between two yields: its own blocks, and those that the rounds turn. A call of a method of an interface value. The end of a function that may panic, behind the marks of its ranges. And of any number with one that is not less than nought. Maps that hold a set of keys; ranges over them, in whatever order. A bit of a set that is kept without a sign; sets of such bits.. -/
import Derived.Test.YtccpgpnekoncoaaQ3
import Derived.Maps.RangeRun
namespace Go.Sy
open Go Go.Proofs Go.RowKit
section
variable {P : Program} {Q : Exit → Act → List Frame → World → Prop} {a : Act} {cs : List Frame} {w : World}
theorem stepsR_recover {n : Nat} {b : Frame} {k : List Item} {o : Oper} {rest : List Oper} (hb : b.kind = .deferred) (hro : b.roundOf = none) (hF : (FR none).fn b.fn) (hroom : (FR none).room (cs.length + 1 + n))
    (hg : o.guard = none) (hd : o.op = .call ⟨.builtin .recover, #[], #[]⟩) (v : Value) (cs' : List Frame) (hv : recoverD cs = some (v, cs') ∨ recoverD cs = none ∧ v = .nilIface ∧ cs' = cs) (l : List Nat) :
    (lone (b.atR a (.inRegion (o :: rest).toArray (0 :: l) :: k)) cs w).fenced P (FR none) ∧ step P (lone (b.atR a (.inRegion (o :: rest).toArray (0 :: l) :: k)) cs w) = .next (lone (b.atR (a.put o.dst v) (.inRegion (o :: rest).toArray l :: k)) cs' w) := by
  have ho : (o :: rest).toArray[0]? = some o := by simp
  have hw : Region.wanted o (yielded (o :: rest).toArray a.tmps) = true := by simp [Region.wanted, hg]
  have hr : (execOp a.eval o).run P w = .ok .recover w := by
    obtain ⟨od, oo, ot, op, oa, og⟩ := o
    simp only at hd hg
    subst hd
    simp [execOp, resolve, invoke, builtin]
  refine ⟨fenced_oper hF hroom ho (fun f _ => trivial), ?_⟩
  have hg := stepGR_op (P := P) (b := b) (a := a) (k := k) (cs := cs) (w := w) (rest := l) ho hw
  rw [hro, Oper.semAt_none] at hg
  have hfin : ∀ v, (b.atR a (.inRegion (o :: rest).toArray (0 :: l) :: k)).finish v = b.atR (a.put o.dst v) (.inRegion (o :: rest).toArray l :: k) := by
    intro v; rw [Frame.finish_atR, ho]; rfl
  have hk : (b.atR a (.inRegion (o :: rest).toArray (0 :: l) :: k)).kind = .deferred := hb
  have htr := tryRecover_deferred hk cs
  refine step_lone_go ?_
  rw [hg, ← hfin]
  simp only [Frame.atR, hro] at htr ⊢
  rcases hv with h1 | ⟨h1, h2, h3⟩
  · simp [stepG.apply, hr, htr, h1]
  · subst h2; subst h3; simp [stepG.apply, hr, htr, h1]
/-- A region that recovers, and goes on. -/
theorem wpSIn_recover {id : Nat} {o : Oper} {rest : List Oper} {v : Value} {cs' : List Frame} (hg : o.guard = none) (hd : o.op = .call ⟨.builtin .recover, #[], #[]⟩)
    (hv : recoverD cs = some (v, cs') ∨ recoverD cs = none ∧ v = .nilIface ∧ cs' = cs) (h : OpsW P none (o :: rest).toArray (fun e a' w' => Q e a' cs' w') rest (a.put o.dst v) w) :
    (Code.region id (o :: rest).toArray false).wpSIn (FR none) 0 P Q a cs w := by
  intro b k hb hro hF hroom
  have hlen : cs'.length = cs.length := by
    rcases hv with h1 | ⟨_, _, h3⟩
    · exact recoverD_length h1
    · rw [h3]
  obtain ⟨hfen, hst⟩ := stepsR_recover (P := P) (a := a) (w := w) (k := k) hb hro hF hroom hg hd v cs' hv (List.range' 1 rest.length)
  have hops := opsW_sound (P := P) (r := none) (ops := (o :: rest).toArray) rest 1 (a.put o.dst v) w (fun j _ => by simp [Nat.add_comm 1 j]) h
  obtain ⟨e, a', w', hq, harr⟩ := wp_opsIn _ _ _ hops b k cs' hro hF (hlen ▸ hroom)
  have hrange : List.range (o :: rest).toArray.size = 0 :: List.range' 1 rest.length := by
    simp [List.range_eq_range', List.range'_succ]
  refine ⟨e, a', cs', w', hlen, hq, .of_steps (.one (fenced_calm hF hroom rfl) stepR_region) ?_⟩
  rw [hrange]
  exact .of_steps (.one hfen hst) harr
end
section
variable {P : Program} {C : World → Prop} {L : List (Nat × Value)} {dd : Option Tmp} {ty : TypeId} {pos : String} {af : Array Edge} {gd : Option (Nat × Bool)}
def ifaceB (P : Program) (t : TypeId) : Bool := match P.underlying t with
  | some (.interface _) => true
  | _ => false
theorem ifaceB_eq {t : TypeId} (ht : ifaceB P t = true) : ∃ ms, P.underlying t = some (.interface ms) := by
  unfold ifaceB at ht
  split at ht
  · rename_i ms hu; exact ⟨ms, hu⟩
  · cases ht
theorem run_eqNil (d : Nat) {t : TypeId} (ht : ifaceB P t = true) (w : World) : (Op.equalIn (d + 1) t .nilIface .nilIface).run P w = .ok true w ∧ ∀ tx v, (Op.equalIn (d + 1) t (.iface tx v) .nilIface).run P w = .ok false w := by
  obtain ⟨ms, hu⟩ := ifaceB_eq ht
  exact ⟨by simp [Op.equalIn, run_underlying hu], fun tx v => by simp [Op.equalIn, run_underlying hu]⟩
theorem yv_isNil {t t' : TypeId} {x y : Operand} (ht : ifaceB P t = true) (hx : ev L x = some .nilIface) (hy : y = .const .nilIface) :
    Yv P C L ⟨dd, .binOp .eql t x y t', ty, pos, af, gd⟩ (.bool true) := fun ρ hρ w _ => by
  subst hy
  have h0 : ρ (.const .nilIface) = .nilIface := hρ _ _ rfl
  have e : (binOp .eql t .nilIface .nilIface).run P w = .ok (.bool true) w := by
    show (do pure (.bool (← Op.equal t .nilIface .nilIface)) : Sem Value).run P w = _
    rw [Sem.run_bind, show (Op.equal t .nilIface .nilIface).run P w = .ok true w from (run_eqNil 9999 ht w).1]; rfl
  have g : (eqGuard .eql t x (.const .nilIface) .nilIface .nilIface).run P w = .ok () w := by simp [eqGuard]
  simp only [execOp, hρ _ _ hx, h0, Sem.run_bind, g, Result.andThen_ok, e, Sem.run_pure]
theorem yv_notNil {t t' tx : TypeId} {v : Value} {x y : Operand} (ht : ifaceB P t = true) (hx : ev L x = some (.iface tx v)) (hy : y = .const .nilIface) :
    Yv P C L ⟨dd, .binOp .eql t x y t', ty, pos, af, gd⟩ (.bool false) := fun ρ hρ w _ => by
  subst hy
  have h0 : ρ (.const .nilIface) = .nilIface := hρ _ _ rfl
  have e : (binOp .eql t (.iface tx v) .nilIface).run P w = .ok (.bool false) w := by
    show (do pure (.bool (← Op.equal t (.iface tx v) .nilIface)) : Sem Value).run P w = _
    rw [Sem.run_bind, show (Op.equal t (.iface tx v) .nilIface).run P w = .ok false w from (run_eqNil 9999 ht w).2 tx v]; rfl
  have g : (eqGuard .eql t x (.const .nilIface) (.iface tx v) .nilIface).run P w = .ok () w := by simp [eqGuard]
  simp only [execOp, hρ _ _ hx, h0, Sem.run_bind, g, Result.andThen_ok, e, Sem.run_pure]
def plainB (P : Program) (t : TypeId) : Bool := match P.underlying t with
  | some (.struct _) => true
  | _ => false
/-- The type that is asked for. -/
theorem yv_assert {t tx : TypeId} {v : Value} {x : Operand} (ht : plainB P tx = true) (hx : ev L x = some (.iface tx v)) :
    Yv P C L ⟨dd, .typeAssert x t tx true, ty, pos, af, gd⟩ (.tuple #[v, .bool true]) := fun ρ hρ w _ => by
  unfold plainB at ht
  split at ht
  · rename_i fs hu
    simp [execOp, hρ _ _ hx, Instr.typeAssert, run_underlying hu]
  · cases ht
def concB (P : Program) (t : TypeId) : Bool := match P.underlying t with
  | some (.interface _) => false
  | some _ => true
  | none => false
theorem yv_makeIface {t : TypeId} {v : Value} {x : Operand} (ht : concB P t = true) (hx : ev L x = some v) :
    Yv P C L ⟨dd, .makeInterface t x, ty, pos, af, gd⟩ (.iface t v) := fun ρ hρ w _ => by
  unfold concB at ht
  split at ht
  · cases ht
  · rename_i td hne hu
    have e : (Instr.makeInterface t v).run P w = .ok (.iface t v) w := by
      unfold Instr.makeInterface
      rw [Sem.run_bind, run_underlying hu]
      simp only [Result.andThen_ok]
      rfl
    simp [execOp, hρ _ _ hx, e]
  · cases ht
end
end Go.Sy
namespace Go.Sy
open Go Go.Proofs Go.RowKit
section
variable {P : Program} {r : Option Nat} {Q : Exit → Act → World → Prop} {a : Act} {w : World} {c : List PanicEntry}
theorem then_p {K : Act → World → Prop} (h : Q (.panic c) a w) : Exit.then K Q (.panic c) a w := h
theorem blk_p {id : Nat} (h : Q (.panic c) a w) : Exit.inBlock id Q (.panic c) a w := h
theorem ng_p (h : Q (.panic c) a w) : noGoto Q (.panic c) a w := h
end
section
variable {P : Program} {fn : Func} {R : Value → World → Prop} {n : Nat} {L : List (Nat × Value)} {a : Act} {w w0 : World} {M : List Nat}
theorem leaves_marksU {tmps : Array Value} {R' : Ending → World → Prop} {ds : List Deferred} {u : FrameMode} (hu : u ≠ .run) : ∀ (Ds : List Nat) (H : List (Nat × Obj)) (w : World), Hp w0 M (dls Ds ++ H) w →
    (∀ w', Hp w0 M H w' → LeavesInM (FR none) 0 P fn tmps R' ds u w') → LeavesInM (FR none) 0 P fn tmps R' (mkd Ds ++ ds) u w
  | [], H, w, hh, k => k w hh
  | D :: Ds, H, w, hh, k => by
    have hi : (dls (D :: Ds) ++ H)[0]? = some (D, .deferred (some [])) := rfl
    refine ⟨hu, .inl ⟨D, w.putObj D (.deferred none), rfl, run_takeDeferred (hh.at hi), ?_⟩⟩
    exact leaves_marksU hu Ds H _ ((hh.put hi (.deferred none)).less (.cons _ (List.Sublist.refl _))) k
/-- Behind the last deferred call. -/
theorem ret_d {f : FuncId} {cap : Array Value} {Ds : List Nat} {H : List (Nat × Obj)} (hf : Fr n (mkd Ds ++ [⟨.fn (.func f) cap, #[]⟩]) L a) (hh : Hp w0 M (dls Ds ++ H) w) (hE : Enters P f)
    (hc : ∀ w', CallsDIn (FR none) 0 P f cap .returning w' (fun e u' w'' => (∃ v, e = .returned v) ∧ u' = .returning ∧ Ext [] w' w''))
    (k : ∀ w', Hp w0 M H w' → ∃ vs, ResAt P L w' fn.results.toList vs ∧ R (tup vs) w') : bodyPostM (FR none) 0 P fn (Ret R) .ret a w := by
  show LeavesInM (FR none) 0 P fn a.tmps (Ret R) a.defers .returning w
  rw [hf.defers]
  refine leaves_marksU (by simp) Ds H w hh fun w' hw' => ?_
  refine leaves_call (args := #[]) (by simp) hE ?_
  rw [Array.empty_append]
  refine (hc w').mono fun e u' w'' he => ?_
  obtain ⟨⟨v, rfl⟩, rfl, hx⟩ := he
  obtain ⟨vs, h1, h2⟩ := k w'' (hw'.more hx)
  have hf0 : Fr n [] L { a with defers := [] } := ⟨hf.size, rfl, hf.get⟩
  exact ⟨v, rfl, _, run_resultsC (a := { a with defers := [] }) hf0 h1, h2⟩
theorem pan_d {f : FuncId} {cap : Array Value} {Ds : List Nat} {H : List (Nat × Obj)} {v : Value} {R2 : World → World → Prop} (hf : Fr n (mkd Ds ++ [⟨.fn (.func f) cap, #[]⟩]) L a) (hh : Hp w0 M (dls Ds ++ H) w) (hE : Enters P f)
    (hc : ∀ w', Hp w0 M H w' → CallsDIn (FR none) 0 P f cap (.panicking [{ v := v, recovered := false }]) w' (fun e u' w'' => (∃ v, e = .returned v) ∧ u' = .panicking [{ v := v, recovered := true }] ∧ R2 w' w''))
    (k : ∀ w' w'', Hp w0 M H w' → R2 w' w'' → ∃ vs, ResAt P L w'' fn.results.toList vs ∧ R (tup vs) w'') : bodyPostM (FR none) 0 P fn (Ret R) (.panic [{ v := v, recovered := false }]) a w := by
  show LeavesInM (FR none) 0 P fn a.tmps (Ret R) a.defers (.panicking _) w
  rw [hf.defers]
  refine leaves_marksU (by simp) Ds H w hh fun w' hw' => ?_
  refine leaves_call (args := #[]) (by simp) hE ?_
  rw [Array.empty_append]
  refine (hc w' hw').mono fun e u' w'' he => ?_
  obtain ⟨⟨v', rfl⟩, rfl, hx⟩ := he
  obtain ⟨vs, h1, h2⟩ := k w' w'' hw' hx
  have hf0 : Fr n [] L { a with defers := [] } := ⟨hf.size, rfl, hf.get⟩
  exact ⟨v', rfl, _, run_resultsC (a := { a with defers := [] }) hf0 h1, h2⟩
/-- The end of a deferred closure without results. -/
theorem ends_s {c₀ : Frame} {cs : List Frame} {u' : FrameMode} {R' : Ending → FrameMode → World → Prop} {fr : Frame} (hf : Fr n [] L a) (hr : fn.results = #[]) (hfr : fr = { c₀ with mode := u' }) (h : R' (.returned (.tuple #[])) u' w) : bodyPostS P fn c₀ cs R' .normal a (fr :: cs) w :=
  ⟨hf.defers, u', by rw [hfr], .tuple #[], by simp [results, hr], h⟩
theorem frame_same {c₀ : Frame} {u : FrameMode} (h : c₀.mode = u) : c₀ = { c₀ with mode := u } := by subst h; rfl
end
end Go.Sy
namespace Go.Sy
open Go Go.Proofs
section
variable {P : Program}
theorem run_arrI {e : TypeId} {k : IntKind} (he : P.underlying e = some (.int k)) (X Y : Array Value) (d : Nat) (w : World) : ∀ (p q : List Int) (s : Nat), p.length = q.length →
    (∀ j a, p[j]? = some a → X[s + j]? = some (.int k a)) → (∀ j a, q[j]? = some a → Y[s + j]? = some (.int k a)) →
    (Op.eqItems (d + 1) e 1 X Y (List.range' s p.length)).run P w = .ok (decide (p = q)) w
  | [], q, s, hl, _, _ => by
    have h2 : q = [] := List.eq_nil_of_length_eq_zero hl.symm
    subst h2
    simp [Op.eqItems]
  | a :: p, [], s, hl, _, _ => by simp at hl
  | a :: p, b :: q, s, hl, hX, hY => by
    have hs : scalB P e = true := by unfold scalB; rw [he]
    have h1 := hX 0 a rfl
    have h2 := hY 0 b rfl
    have h4 := run_arrI he X Y d w p q (s + 1) (by simpa using hl) (fun j c hc => by rw [Nat.add_right_comm]; exact hX (j + 1) c hc) (fun j c hc => by rw [Nat.add_right_comm]; exact hY (j + 1) c hc)
    have h3 : (Op.equalIn (d + 1) e (.int k a) (.int k b)).run P w = .ok (decide (a = b)) w := by
      rw [run_equalIn_int w d e k k a b he]
      rfl
    rw [List.length_cons, List.range'_succ]
    rw [Nat.add_zero] at h1 h2
    simp only [Op.eqItems, Nat.mul_one, Sem.run_bind, part, run_isAgg_scal hs, h1, h2, Result.andThen_ok, Bool.false_eq_true, if_false, Sem.run_pure, h3]
    by_cases e : a = b
    · subst e; simp [h4]
    · simp [e]
theorem run_arrC {e : TypeId} {k : IntKind} {ti : TypeInfo} (he : P.underlying e = some (.int k)) (hi : P.info? e = some ti) (b : Bool) (X : Array Value) (d : Nat) (w : World) : ∀ (is : List Nat), (∀ i ∈ is, ∃ a, X[i * P.cellsOf e]? = some (.int k a)) →
    (forIn is PUnit.unit (fun i (_ : PUnit) => (do Instr.checkKey b (d + 1) e (← part e X (i * (← sizeOf e))); pure (ForInStep.yield PUnit.unit) : Sem (ForInStep PUnit)))).run P w = .ok PUnit.unit w
  | [], _ => by simp
  | i :: is, h => by
    have hs : scalB P e = true := by unfold scalB; rw [he]
    obtain ⟨a, h1⟩ := h i (by simp)
    have h4 := run_arrC he hi b X d w is fun j hj => h j (by simp [hj])
    rw [List.forIn_cons]
    simp only [Sem.run_bind, run_sizeOf w hi, part, run_isAgg_scal hs, h1, Result.andThen_ok, Bool.false_eq_true, if_false, Sem.run_pure, Instr.checkKey, run_underlying he]
    exact h4
/-- Keys that are arrays of integers. -/
theorem keyArr {t e : TypeId} {n : Nat} {k : IntKind} {κ : Type} [DecidableEq κ] (ints : κ → List Int) (inj : ∀ p q, ints p = ints q → p = q) (hl : ∀ p, (ints p).length = n)
    (hu : P.underlying t = some (.array n e)) (he : P.underlying e = some (.int k)) (hc : P.cellsOf e = 1) (hi : (P.info? e).isSome = true) :
    KeyOk P t (fun p => .agg ((ints p).map (Value.int k)).toArray) := by
  obtain ⟨i, hi⟩ := Option.isSome_iff_exists.1 hi
  refine ⟨fun p q w => ?_, fun b p w => ?_, ⟨_, hu, fun p q => rfl⟩, fun p => ?_⟩
  · show (Op.equalIn 10000 t _ _).run P w = _
    rw [show (10000 : Nat) = 9998 + 1 + 1 from rfl, run_equalIn_array w 9999 _ _ hu hi, hc, List.range_eq_range', ← hl p]
    rw [run_arrI he _ _ 9998 w (ints p) (ints q) 0 (by rw [hl, hl]) (fun j a h => by rw [Nat.zero_add]; simp [h]) (fun j a h => by rw [Nat.zero_add]; simp [h])]
    congr 1
    by_cases h : p = q
    · subst h; simp
    · rw [decide_eq_false h, decide_eq_false fun h' => h (inj _ _ h')]
  · have key : ∀ m : Nat, (Instr.checkKey b (m + 1 + 1) t (.agg ((ints p).map (Value.int k)).toArray)).run P w = .ok () w := fun m => by
      unfold Instr.checkKey
      simp only [Sem.run_bind, run_underlying hu, Result.andThen_ok, run_sizeOf w hi]
      simp only [Std.Legacy.Range.forIn_eq_forIn_range', Std.Legacy.Range.size, Nat.sub_zero, Nat.add_one_sub_one, Nat.div_one]
      have h2 := run_arrC he hi b ((ints p).map (Value.int k)).toArray m w (List.range' 0 n) fun i hi => by
        rw [List.mem_range'_1] at hi
        rw [hc, Nat.mul_one]
        have h3 : i < (ints p).length := by rw [hl]; omega
        exact ⟨(ints p)[i], by simp [List.getElem?_eq_getElem h3]⟩
      simp only [bind_pure_comp] at h2 ⊢
      rw [h2]
      rfl
    exact key 9998
  · have e : ∀ (m : Nat) (x : Int), Instr.sameBits m (.int k x) (.int k x) = true := fun m x => by cases m <;> simp [Instr.sameBits]
    show Instr.sameBits (9999 + 1) _ _ = true
    simp only [Instr.sameBits, beq_self_eq_true, Bool.true_and, List.all_eq_true]
    intro x hx
    obtain ⟨x1, x2⟩ := x
    rw [List.zip_eq_zipWith, List.mem_iff_getElem?] at hx
    obtain ⟨j, hj⟩ := hx
    rw [List.getElem?_zipWith, List.getElem?_map] at hj
    cases h : (ints p)[j]? with
    | none => rw [h] at hj; simp at hj
    | some v => rw [h] at hj; simp at hj; obtain ⟨rfl, rfl⟩ := hj; exact e _ _
end
/-- Each entry of a map is what it should be. -/
def MemoV {κ : Type} (enc : κ → Value) (F : κ → Value) (es : Array MapEntry) : Prop := ∀ e ∈ es.toList, ∃ p, e.key = enc p ∧ e.val = F p
theorem MemoV.nil {κ : Type} (enc : κ → Value) (F : κ → Value) : MemoV enc F #[] := fun e h => by simp at h
section
variable {P : Program} {κ : Type} [DecidableEq κ] {enc : κ → Value} {ke : TypeId} {F : κ → Value}
theorem ask_memoV (hk : KeyOk P ke enc) (p : κ) : ∀ (l : List MapEntry) (i : Nat), (∀ e ∈ l, ∃ q, e.key = enc q ∧ e.val = F q) →
    (∃ j, (∀ w, (Instr.findAsking ke (enc p) l i).run P w = .ok (some (j, F p)) w) ∧ ∃ e, l[j - i]? = some e ∧ i ≤ j ∧ e.key = enc p) ∨ ∀ w, (Instr.findAsking ke (enc p) l i).run P w = .ok none w
  | [], i, _ => .inr fun _ => rfl
  | e :: l, i, h => by
    obtain ⟨q, hq, hv⟩ := h e (by simp)
    have h0 := hk.eq p q
    by_cases hpq : p = q
    · subst hpq
      exact .inl ⟨i, fun w => by simp [Instr.findAsking, hq, h0 w, hv], e, by simp, Nat.le_refl _, hq⟩
    · rcases ask_memoV hk p l (i + 1) (fun e he => h e (by simp [he])) with ⟨j, h2, e', h3, h4, h5⟩ | h2
      · refine .inl ⟨j, fun w => by simp [Instr.findAsking, hq, h0 w, hpq, h2 w], e', ?_, by omega, h5⟩
        rw [show j - i = (j - (i + 1)) + 1 by omega]; simpa using h3
      · exact .inr fun w => by simp [Instr.findAsking, hq, h0 w, hpq, h2 w]
theorem find_memoV (hk : KeyOk P ke enc) (p : κ) {es : Array MapEntry} (hm : MemoV enc F es) :
    (∃ j, (∀ w, (Instr.findKey ke (enc p) es.toList).run P w = .ok (some (j, F p)) w) ∧ ∃ e, es[j]? = some e ∧ e.key = enc p) ∨ ∀ w, (Instr.findKey ke (enc p) es.toList).run P w = .ok none w := by
  obtain ⟨td, h1, h2⟩ := hk.kind
  have hn : ∀ l : List MapEntry, (∀ e ∈ l, ∃ q, e.key = enc q ∧ e.val = F q) → l ≠ [] → Instr.findNow td (enc p) l 0 = none := fun l hl hne => by
    cases l with
    | nil => exact absurd rfl hne
    | cons e l =>
      obtain ⟨q, hq, _⟩ := hl e (by simp)
      simp [Instr.findNow, hq, h2]
  by_cases he : es.toList = []
  · refine .inr fun w => ?_
    rw [he]
    simp [Instr.findKey, run_underlying h1, Instr.findNow]
  · rcases ask_memoV hk p es.toList 0 hm with ⟨j, h3, e, h4, _, h5⟩ | h3
    · refine .inl ⟨j, fun w => by simp [Instr.findKey, run_underlying h1, hn _ hm he, h3 w], e, ?_, h5⟩
      rw [Nat.sub_zero, Array.getElem?_toList] at h4; exact h4
    · exact .inr fun w => by simp [Instr.findKey, run_underlying h1, hn _ hm he, h3 w]
variable {C : World → Prop} {L : List (Nat × Value)} {dd : Option Tmp} {ty : TypeId} {pos : String} {af : Array Edge} {gd : Option (Nat × Bool)}
theorem yv_lookupV {t el : TypeId} {x y : Operand} {bm c : Nat} {es : Array MapEntry} {p : κ} {z : Value} (hk : KeyOk P ke enc) (ht : mapKE P t = some (ke, el)) (hz : zeroOf P el = some z) (hx : ev L x = some (.map (some bm))) (hy : ev L y = some (enc p)) (hm : MemoV enc F es)
    (hb : ∀ w, C w → w.heap[bm]? = some (.map es c)) :
    ∃ b : Bool, Yv P C L ⟨dd, .lookup t x y true, ty, pos, af, gd⟩ (.tuple #[if b then F p else z, .bool b]) := by
  have h1 := mapKE_eq ht
  have hg : ∀ w, C w → (getObj bm).run P w = .ok (.map es c) w := fun w hw => by simp [getObj, Sem.run, hb w hw]
  have hc := hk.chk es.isEmpty p
  rcases find_memoV hk p hm with ⟨j, a1, _⟩ | a1
  · exact ⟨true, fun ρ hρ w hw => by simp [execOp, hρ _ _ hx, hρ _ _ hy, Instr.lookup, run_underlying h1, hg w hw, hc w, a1 w]⟩
  · exact ⟨false, fun ρ hρ w hw => by simp [execOp, hρ _ _ hx, hρ _ _ hy, Instr.lookup, run_underlying h1, hg w hw, hc w, a1 w, run_zero hz]⟩
variable {r : Option Nat} {all : Array Oper} {Q : Exit → Act → World → Prop} {rest : List Oper} {a : Act} {w w0 : World} {M : List Nat} {H : List (Nat × Obj)} {n : Nat} {ds : List Deferred} {d : Nat}
theorem ops_lookupV {t el : TypeId} {x y : Operand} {bm c i : Nat} {es : Array MapEntry} {p : κ} {z : Value} (hf : Fr n ds L a) (hh : Hp w0 M H w) (hk : KeyOk P ke enc) (ht : mapKE P t = some (ke, el)) (hz : zeroOf P el = some z)
    (hx : ev L x = some (.map (some bm))) (hy : ev L y = some (enc p)) (hi : H[i]? = some (bm, .map es c)) (hm : MemoV enc F es) (hg : GOn all L ⟨some d, .lookup t x y true, ty, pos, af, gd⟩) (hn : Nat.blt d n = true)
    (K : ∀ (b : Bool) (a : Act), Fr n ds ((d, .tuple #[if b then F p else z, .bool b]) :: L) a → OpsW P r all Q rest a w) : OpsW P r all Q (⟨some d, .lookup t x y true, ty, pos, af, gd⟩ :: rest) a w := by
  obtain ⟨b, hb⟩ := yv_lookupV (C := Hp w0 M H) (dd := some d) (ty := ty) (pos := pos) (af := af) (gd := gd) hk ht hz hx hy hm (fun w hw => hw.at hi)
  exact o_v hf hh hb (fun a hf => K b a hf) (hg := hg) (hn := hn)
theorem oq_lookupV {Q : Act → Prop} {t el : TypeId} {x y : Operand} {bm c i : Nat} {es : Array MapEntry} {p : κ} {z : Value} (hf : Fr n ds L a) (hk : KeyOk P ke enc) (ht : mapKE P t = some (ke, el)) (hz : zeroOf P el = some z)
    (hx : ev L x = some (.map (some bm))) (hy : ev L y = some (enc p)) (hi : H[i]? = some (bm, .map es c)) (hm : MemoV enc F es) (hg : GOn all L ⟨some d, .lookup t x y true, ty, pos, af, gd⟩) (hn : Nat.blt d n = true)
    (K : ∀ (b : Bool) (a : Act), Fr n ds ((d, .tuple #[if b then F p else z, .bool b]) :: L) a → wpQuiet P all (Hp w0 M H) Q rest a) : wpQuiet P all (Hp w0 M H) Q (⟨some d, .lookup t x y true, ty, pos, af, gd⟩ :: rest) a := by
  obtain ⟨b, hb⟩ := yv_lookupV (C := Hp w0 M H) (dd := some d) (ty := ty) (pos := pos) (af := af) (gd := gd) hk ht hz hx hy hm (fun w hw => hw.at hi)
  exact oq_v hf hb (fun a hf => K b a hf) (hg := hg) (hn := hn)
theorem ops_mapUpdateV {t el : TypeId} {x y z : Operand} {bm c i : Nat} {es : Array MapEntry} {p : κ} (hf : Fr n ds L a) (hh : Hp w0 M H w) (hk : KeyOk P ke enc) (ht : mapKE P t = some (ke, el)) (hx : ev L x = some (.map (some bm))) (hy : ev L y = some (enc p))
    (hv : ev L z = some (F p)) (hi : H[i]? = some (bm, .map es c)) (hm : MemoV enc F es) (hg : GOn all L ⟨none, .mapUpdate t x y z, ty, pos, af, gd⟩)
    (K : ∀ (es' : Array MapEntry) (c' : Nat) (w : World), MemoV enc F es' → Hp w0 M (H.set i (bm, .map es' c')) w → OpsW P r all Q rest a w) : OpsW P r all Q (⟨none, .mapUpdate t x y z, ty, pos, af, gd⟩ :: rest) a w := by
  have h1 := mapKE_eq ht
  have hb := hh.at hi
  have hgo : (getObj bm).run P w = .ok (.map es c) w := by simp [getObj, Sem.run, hb]
  have hc := hk.chk false p w
  have hset : ∀ o, (setObj bm o).run P w = .ok () (w.putObj bm o) := fun o => by simp [setObj, Sem.run, hb, World.putObj]
  have hfm := find_memoV hk p hm
  rcases hfm with ⟨j, a2, e, hej, a5⟩ | a2
  all_goals replace a2 := a2 w
  · have hkeep : (Instr.keyThatStays (((es[j]?).map (·.key)).getD (enc p)) (enc p)).run P w = .ok (enc p) w := by
      rw [hej]; simp [a5, Instr.keyThatStays, hk.bits]
    refine opsW_skip (w' := w.putObj bm (.map (es.modify j fun e => { e with key := enc p, val := F p }) c)) (hg.wanted hf) rfl ?_ (K _ _ _ ?_ (hh.put hi _))
    · simp [execOp, hf.agree _ _ hx, hf.agree _ _ hy, hf.agree _ _ hv, Instr.mapUpdate, run_underlying h1, hgo, hc, a2, hkeep, hset]
    · intro e' he'
      rw [Array.mem_toList_iff] at he'
      obtain ⟨q, hq, rfl⟩ := Array.getElem_of_mem he'
      rw [Array.getElem_modify]
      split
      · exact ⟨p, rfl, rfl⟩
      · exact hm _ (Array.mem_toList_iff.2 (Array.getElem_mem _))
  · refine opsW_skip (w' := w.putObj bm (.map (es.push { key := enc p, val := F p, born := c }) (c + 1))) (hg.wanted hf) rfl ?_ (K _ _ _ ?_ (hh.put hi _))
    · simp [execOp, hf.agree _ _ hx, hf.agree _ _ hy, hf.agree _ _ hv, Instr.mapUpdate, run_underlying h1, hgo, hc, a2, hset]
    · intro e' he'
      rw [Array.toList_push, List.mem_append] at he'
      rcases he' with he' | he'
      · exact hm e' he'
      · simp at he'; subst he'; exact ⟨p, rfl, rfl⟩
end
end Go.Sy
namespace Go.Sy
open Go Go.Proofs
def Held (N : List Nat) (w : World) (l : List (Nat × Obj)) : Prop := ∀ q ∈ l, w.heap[q.1]? = some q.2 ∧ q.1 ∉ N
theorem Held.step {N N' : List Nat} {w w' : World} {l : List (Nat × Obj)} (h : Held N w l) (e : Ext N w w') (g : Grows N N' w) : Held N' w' l := fun q hq => by
  obtain ⟨h1, h2⟩ := h q hq
  refine ⟨e.getM h1 h2, fun h3 => ?_⟩
  have := (Array.getElem?_eq_some_iff.1 h1).1
  rcases g _ h3 with h4 | h4
  · exact h2 h4
  · omega
theorem Held.grow {N N' : List Nat} {w : World} {l : List (Nat × Obj)} (h : Held N w l) (g : Grows N N' w) : Held N' w l := h.step (.refl _ _) g
theorem Held.ext {N : List Nat} {w w' : World} {l : List (Nat × Obj)} (h : Held N w l) (e : Ext [] w w') : Held N w' l := fun q hq => ⟨e.get (h q hq).1, (h q hq).2⟩
theorem Held.extM {N O : List Nat} {w w' : World} {l : List (Nat × Obj)} (h : Held N w l) (e : Ext O w w') (ho : ∀ x ∈ O, x ∉ l.map Prod.fst) : Held N w' l := fun q hq =>
  ⟨e.getM (h q hq).1 fun hx => ho _ hx (List.mem_map.2 ⟨q, hq, rfl⟩), (h q hq).2⟩
theorem Held.at {N : List Nat} {w : World} {l : List (Nat × Obj)} (h : Held N w l) (i : Nat) {b : Nat} {o : Obj} (hi : l[i]? = some (b, o)) : w.heap[b]? = some o := (h _ (List.mem_of_getElem? hi)).1
theorem Held.off {N : List Nat} {w : World} {l : List (Nat × Obj)} (h : Held N w l) (i : Nat) {b : Nat} {o : Obj} (hi : l[i]? = some (b, o)) : b ∉ N := (h _ (List.mem_of_getElem? hi)).2
theorem Held.sub {N : List Nat} {w : World} {l l' : List (Nat × Obj)} (h : Held N w l) (hs : ∀ q ∈ l', q ∈ l) : Held N w l' := fun q hq => h q (hs q hq)
theorem Held.cons {N : List Nat} {w : World} {l : List (Nat × Obj)} {b : Nat} {o : Obj} (h : w.heap[b]? = some o) (hb : b ∉ N) (hl : Held N w l) : Held N w ((b, o) :: l) := fun q hq => by
  rcases List.mem_cons.1 hq with rfl | hq
  · exact ⟨h, hb⟩
  · exact hl q hq
theorem Held.nil (N : List Nat) (w : World) : Held N w [] := fun q hq => by cases hq
end Go.Sy
namespace Go.Sy
open Go Go.Proofs Go.RowKit
theorem Hp.others {w0 : World} {M O : List Nat} {H : List (Nat × Obj)} {v v' : World} (h : Hp w0 M H v) (e : Ext O v v') (hO : ∀ x ∈ O, x ∉ H.map Prod.fst ∧ (x ∈ M ∨ w0.heap.size ≤ x)) : Hp w0 M H v' := by
  refine ⟨⟨e.os.trans h.ext.os, e.tape.trans h.ext.tape, e.output.trans h.ext.output, Nat.le_trans h.ext.size e.size, Nat.le_trans h.ext.dr e.dr, fun k hk hm => ?_⟩, fun q hq => ?_, h.nodup, h.mine⟩
  · refine (e.block k (Nat.lt_of_lt_of_le hk h.ext.size) fun hx => ?_).trans (h.ext.block k hk hm)
    rcases (hO k hx).2 with h1 | h1
    · exact hm h1
    · omega
  · exact e.getM (h.get q hq) fun hx => (hO _ hx).1 (List.mem_map.2 ⟨q, hq, rfl⟩)
theorem Hp.comp {w0 : World} {M : List Nat} {H H' : List (Nat × Obj)} {v v' : World} (h : Hp w0 M H v) (h' : Hp v (H.map Prod.fst) H' v') : Hp w0 M H' v' := by
  have := Hp.swap (X := H) (X' := H') (Z := []) (by rw [List.append_nil]; exact h) h'
  rwa [List.append_nil] at this
section
variable {P : Program} {Q : Exit → Act → World → Prop} {a : Act} {w w0 : World} {M : List Nat} {H : List (Nat × Obj)} {n : Nat} {ds : List Deferred} {L : List (Nat × Value)}
theorem sy_rangeH {g : Operand} {ps : List Tmp} {asg body : Code} {f : FuncId} {fs cs : Array Value} {xs : List (Array Value)} {Mi : List Nat} {Own : List Nat → World → Prop} (I : Nat → List (Nat × Obj) → Prop) (X : Nat → Code → List (Nat × Obj) → Prop)
    (hf : Fr n ds L a) (hh : Hp w0 M H w) (hE : Enters P f) (hg : ev L g = some (.func (.func f) fs cs)) (it : IterF P f fs cs xs Mi Own) (hMi : ∀ x ∈ Mi, x ∈ M ∨ w0.heap.size ≤ x)
    (hps : (ps.all fun t => Nat.blt t n) = true) (hsz : ∀ x ∈ xs, x.size = ps.length)
    (hI0 : I 0 H) (hO0 : ∀ N' w', Ext [] w w' → Grows (H.map Prod.fst) N' w → Own N' w')
    (hround : ∀ k x fn D l H v a' tm, xs[k]? = some x → I k H → Hp w0 M H v → Hp v (l :: D :: H.map Prod.fst) ((l, .loop (rec0 fn tm ps.toArray asg body D .ready none)) :: (D, .deferred (some [])) :: H) v → Fr n [] (zipL ps.reverse x.toList.reverse ++ L) a' →
      WP P (some l) asg (Exit.then (Begun P l body (RoundEnd v (l :: D :: H.map Prod.fst) l (rec0 fn tm ps.toArray asg body D .busy none) D (I (k + 1)) (X k))) (fun _ _ _ => False)) a' v)
    (hdone : ∀ D H N' a v, I xs.length H → Own N' v → Fr n ({ target := .collected D, args := #[] } :: ds) L a → Hp w0 M ((D, .deferred (some [])) :: H) v → Q .normal a v)
    (hstop : ∀ k c D H N' a v, X k c H → Own N' v → Fr n ({ target := .collected D, args := #[] } :: ds) L a → Hp w0 M ((D, .deferred (some [])) :: H) v → WP P none c Q a v)
    (hOS : ∀ N v v' b, Own N v → b ∈ N → Ext [b] v v' → Own N v') :
    WP P none (.rangeFunc g ps.toArray asg body) Q a w := by
  have hlt : ∀ {H : List (Nat × Obj)} {v : World}, Hp w0 M H v → ∀ x ∈ H.map Prod.fst, x < v.heap.size := fun h x hx => by
    obtain ⟨q, hq, rfl⟩ := List.mem_map.1 hx
    exact (Array.getElem?_eq_some_iff.1 (h.get q hq)).1
  have hsz0 := hh.ext.size
  have keep : ∀ {H : List (Nat × Obj)} {v v' : World} {O : List Nat}, Hp w0 M H v → Ext O v v' → (∀ x ∈ O, x ∉ H.map Prod.fst ∧ (x ∈ Mi ∨ w.heap.size ≤ x)) → Hp w0 M H v' := fun h e hO =>
    h.others e fun x hx => ⟨(hO x hx).1, by
      rcases (hO x hx).2 with h1 | h1
      · exact hMi x h1
      · exact .inr (Nat.le_trans hsz0 h1)⟩
  have mark : ∀ {H : List (Nat × Obj)} {v : World} {D : Nat}, Hp w0 M H v → D ∉ H.map Prod.fst → v.heap[D]? = some (.deferred (some [])) → w.heap.size ≤ D → Hp w0 M ((D, .deferred (some [])) :: H) v := fun {H v D} h hD hv hs =>
    ⟨h.ext, fun q hq => by
      rcases List.mem_cons.1 hq with rfl | hq
      · exact hv
      · exact h.get q hq, by rw [List.map_cons, List.nodup_cons]; exact ⟨hD, h.nodup⟩, fun q hq => by
      rcases List.mem_cons.1 hq with rfl | hq
      · exact .inl (Nat.le_trans hsz0 hs)
      · exact h.mine q hq⟩
  refine sy_rangeG (fun k N v => ∃ H, I k H ∧ N = H.map Prod.fst ∧ Hp w0 M H v) (fun k c N v => ∃ H, X k c H ∧ N = H.map Prod.fst ∧ Hp w0 M H v) (H.map Prod.fst) hf hE hg it hps hsz ⟨H, hI0, rfl, hh⟩ hO0 ?_ ?_ ?_ ?_ ?_ ?_ ?_ hOS
  · rintro k N v ⟨H, _, rfl, h⟩; exact hlt h
  · rintro k c N v ⟨H, _, rfl, h⟩; exact hlt h
  · rintro k N v v' O ⟨H, h1, rfl, h⟩ e hO; exact ⟨H, h1, rfl, keep h e hO⟩
  · rintro k c N v v' O ⟨H, h1, rfl, h⟩ e hO; exact ⟨H, h1, rfl, keep h e hO⟩
  · rintro k x fn D l N v a' tm hx ⟨H, hI, rfl, h⟩ hr hl hD hwl hwD hf'
    have hv : Hp v (l :: D :: H.map Prod.fst) ((l, .loop (rec0 fn tm ps.toArray asg body D .ready none)) :: (D, .deferred (some [])) :: H) v := by
      refine ⟨.refl _ _, fun q hq => ?_, ?_, fun q hq => ?_⟩
      · rcases List.mem_cons.1 hq with rfl | hq
        · exact hr.get _ (.head _)
        · rcases List.mem_cons.1 hq with rfl | hq
          · exact hr.get _ (.tail _ (.head _))
          · exact h.get q hq
      · have := hr.nodup
        simp only [List.map_cons, List.map_nil, List.nodup_cons, List.mem_cons, not_or] at this ⊢
        exact ⟨⟨this.1.1, hl⟩, hD, h.nodup⟩
      · rcases List.mem_cons.1 hq with rfl | hq
        · exact .inr (.head _)
        · rcases List.mem_cons.1 hq with rfl | hq
          · exact .inr (.tail _ (.head _))
          · exact .inr (.tail _ (.tail _ (List.mem_map.2 ⟨q, hq, rfl⟩)))
    have fin : ∀ {H' : List (Nat × Obj)} {o : Obj} {v' : World}, Hp v (l :: D :: H.map Prod.fst) ((l, o) :: (D, .deferred (some [])) :: H') v' →
        Hp w0 M H' v' ∧ Grows (H.map Prod.fst) (H'.map Prod.fst) v ∧ Ext (l :: D :: H.map Prod.fst) v v' ∧ v'.heap[l]? = some o ∧ v'.heap[D]? = some (.deferred (some [])) ∧ l ∉ H'.map Prod.fst ∧ D ∉ H'.map Prod.fst := fun {H' o v'} h' => by
      have hn := h'.nodup
      simp only [List.map_cons, List.nodup_cons, List.mem_cons, not_or] at hn
      have hg : Grows (H.map Prod.fst) (H'.map Prod.fst) v := fun y hy => by
        obtain ⟨q, hq, rfl⟩ := List.mem_map.1 hy
        rcases h'.mine q (.tail _ (.tail _ hq)) with h1 | h1
        · exact .inr h1
        · rcases List.mem_cons.1 h1 with h1 | h1
          · exact absurd (h1 ▸ hy) hn.1.2
          · rcases List.mem_cons.1 h1 with h1 | h1
            · exact absurd (h1 ▸ hy) hn.2.1
            · exact .inl h1
      refine ⟨?_, hg, h'.ext, h'.get _ (.head _), h'.get _ (.tail _ (.head _)), hn.1.2, hn.2.1⟩
      refine ⟨⟨h'.ext.os.trans h.ext.os, h'.ext.tape.trans h.ext.tape, h'.ext.output.trans h.ext.output, Nat.le_trans h.ext.size h'.ext.size, Nat.le_trans h.ext.dr h'.ext.dr, fun k hk hm => ?_⟩, fun q hq => h'.get q (.tail _ (.tail _ hq)), hn.2.2, fun q hq => ?_⟩
      · refine (h'.ext.block k (Nat.lt_of_lt_of_le hk h.ext.size) fun hx => ?_).trans (h.ext.block k hk hm)
        rcases List.mem_cons.1 hx with rfl | hx
        · omega
        · rcases List.mem_cons.1 hx with rfl | hx
          · omega
          · obtain ⟨q, hq, rfl⟩ := List.mem_map.1 hx
            rcases h.mine q hq with h1 | h1
            · omega
            · exact hm h1
      · rcases hg q.1 (List.mem_map.2 ⟨q, hq, rfl⟩) with h1 | h1
        · obtain ⟨q', hq', e⟩ := List.mem_map.1 h1
          have := h.mine q' hq'
          rwa [e] at this
        · exact .inl (Nat.le_trans h.ext.size h1)
    refine wpIn_mono (hround k x fn D l H v a' tm hx hI h hv hf') fun e a1 v1 he => ?_
    cases e with
    | normal =>
      obtain ⟨v2, hb, hbody⟩ := he
      refine ⟨v2, hb, wpIn_mono hbody fun e a2 v3 h3 => ?_⟩
      cases e with
      | normal => obtain ⟨H', hI', h'⟩ := h3; obtain ⟨f1, f2, f3, f4, f5, f6, f7⟩ := fin h'; exact ⟨_, ⟨H', hI', rfl, f1⟩, f2, f3, f4, f5, f6, f7⟩
      | ret => obtain ⟨H', hI', h'⟩ := h3; obtain ⟨f1, f2, f3, f4, f5, f6, f7⟩ := fin h'; exact ⟨_, ⟨H', hI', rfl, f1⟩, f2, f3, f4, f5, f6, f7⟩
      | exit id => obtain ⟨H', hI', h'⟩ := h3; obtain ⟨f1, f2, f3, f4, f5, f6, f7⟩ := fin h'; exact ⟨_, ⟨H', hI', rfl, f1⟩, f2, f3, f4, f5, f6, f7⟩
      | goto t => exact h3.elim
      | panic c => exact h3.elim
      | outgrown => exact h3.elim
    | exit id => exact he.elim
    | goto t => exact he.elim
    | ret => exact he.elim
    | panic c => exact he.elim
    | outgrown => exact he.elim
  · rintro D N N' a v ⟨H, hI, rfl, h⟩ hOw hD hv hs hf'; exact hdone D H N' a v hI hOw hf' (mark h hD hv hs)
  · rintro k c D N N' a v ⟨H, hX, rfl, h⟩ hOw hD hv hs hf'; exact hstop k c D H N' a v hX hOw hf' (mark h hD hv hs)
end
end Go.Sy
namespace Go.Sy
open Go Go.Proofs Go.RowKit
theorem Hp.over {u v v' : World} {M O : List Nat} {H H' : List (Nat × Obj)} (h : Hp u M H v) (h' : Hp v O H' v') (hO : ∀ x ∈ O, x ∈ M ∨ u.heap.size ≤ x) : Hp u M H' v' := by
  refine ⟨⟨h'.ext.os.trans h.ext.os, h'.ext.tape.trans h.ext.tape, h'.ext.output.trans h.ext.output, Nat.le_trans h.ext.size h'.ext.size, Nat.le_trans h.ext.dr h'.ext.dr, fun k hk hm => ?_⟩, h'.get, h'.nodup, fun q hq => ?_⟩
  · refine (h'.ext.block k (Nat.lt_of_lt_of_le hk h.ext.size) fun hx => ?_).trans (h.ext.block k hk hm)
    rcases hO k hx with h1 | h1
    · exact hm h1
    · omega
  · rcases h'.mine q hq with h1 | h1
    · exact .inl (Nat.le_trans h.ext.size h1)
    · exact (hO _ h1).symm
theorem Hp.own {u w : World} {M : List Nat} {H : List (Nat × Obj)} (h : Hp u M H w) : Hp w (H.map Prod.fst) H w :=
  ⟨.refl _ _, h.get, h.nodup, fun q hq => .inr (List.mem_map.2 ⟨q, hq, rfl⟩)⟩
theorem Ext.chain {O O' : List Nat} {v v1 v' : World} (h : Ext O v v1) (h' : Ext O' v1 v') (hO : ∀ x ∈ O', x ∈ O ∨ v.heap.size ≤ x) : Ext O v v' :=
  ⟨h'.os.trans h.os, h'.tape.trans h.tape, h'.output.trans h.output, Nat.le_trans h.size h'.size, Nat.le_trans h.dr h'.dr, fun k hk hm => (h'.block k (Nat.lt_of_lt_of_le hk h.size) fun hx => by
    rcases hO k hx with h1 | h1
    · exact hm h1
    · omega).trans (h.block k hk hm)⟩
structure SyN (u : World) (Mi N0 N : List Nat) (H : List (Nat × Obj)) (w : World) : Prop where
  hp : Hp u (Mi ++ N0) H w
  gr : Grows N0 N u
  off : ∀ x ∈ N, x ∉ H.map Prod.fst
  loc : ∀ x ∈ H.map Prod.fst, x ∈ Mi ∨ u.heap.size ≤ x
  lt : ∀ x ∈ N, x < w.heap.size
section
variable {u w w' : World} {Mi N0 N N' O : List Nat} {H H' : List (Nat × Obj)}
theorem SyN.init (h : Hp u Mi H u) (hm : ∀ x ∈ N0, x ∉ H.map Prod.fst) (hl : ∀ x ∈ N0, x < u.heap.size) (hH : ∀ x ∈ H.map Prod.fst, x ∈ Mi) : SyN u Mi N0 N0 H u :=
  ⟨⟨.refl _ _, h.get, h.nodup, fun q hq => (h.mine q hq).imp id fun hx => List.mem_append_left _ hx⟩, .refl _ _, hm, fun x hx => .inl (hH x hx), hl⟩
/-- What the iterator does by itself. -/
theorem SyN.step (h : SyN u Mi N0 N H w) (h' : Hp w O H' w') (hO : ∀ x ∈ O, x ∈ H.map Prod.fst ∨ w.heap.size ≤ x) : SyN u Mi N0 N H' w' := by
  have hs := h.hp.ext.size
  have key : ∀ x ∈ H'.map Prod.fst, x ∈ H.map Prod.fst ∨ w.heap.size ≤ x := fun x hx => by
    obtain ⟨q, hq, rfl⟩ := List.mem_map.1 hx
    rcases h'.mine q hq with h1 | h1
    · exact .inr h1
    · exact hO _ h1
  refine ⟨h.hp.over h' fun x hx => ?_, h.gr, fun x hx hx' => ?_, fun x hx => ?_, fun x hx => Nat.lt_of_lt_of_le (h.lt x hx) h'.ext.size⟩
  · rcases hO x hx with h1 | h1
    · exact (h.loc x h1).imp (fun h2 => List.mem_append_left _ h2) id
    · exact .inr (Nat.le_trans hs h1)
  · rcases key x hx' with h1 | h1
    · exact h.off x hx h1
    · have := h.lt x hx; omega
  · rcases key x hx with h1 | h1
    · exact h.loc x h1
    · exact .inr (Nat.le_trans hs h1)
theorem SyN.side (h : SyN u Mi N0 N H w) (hO : ∀ x ∈ O, x ∈ H.map Prod.fst ∨ w.heap.size ≤ x) : ∀ x ∈ O, x ∉ N ∧ (x ∈ Mi ∨ u.heap.size ≤ x) := fun x hx => by
  rcases hO x hx with h1 | h1
  · exact ⟨fun h2 => h.off x h2 h1, h.loc x h1⟩
  · exact ⟨fun h2 => by have := h.lt x h2; omega, .inr (Nat.le_trans h.hp.ext.size h1)⟩
/-- What the round does. -/
theorem SyN.yield (h : SyN u Mi N0 N H w) (e : Ext N w w') (g : Grows N N' w) (hl : ∀ x ∈ N', x < w'.heap.size) : SyN u Mi N0 N' H w' := by
  refine ⟨h.hp.others e fun x hx => ⟨h.off x hx, (h.gr x hx).imp (fun h2 => List.mem_append_right _ h2) id⟩, h.gr.trans g h.hp.ext.size, fun x hx hx' => ?_, h.loc, hl⟩
  rcases g x hx with h1 | h1
  · exact h.off x h1 hx'
  · obtain ⟨q, hq, rfl⟩ := List.mem_map.1 hx'
    have := (Array.getElem?_eq_some_iff.1 (h.hp.get q hq)).1
    omega
theorem SyN.less (h : SyN u Mi N0 N H w) (hs : H'.Sublist H) : SyN u Mi N0 N H' w :=
  ⟨h.hp.less hs, h.gr, fun x hx hx' => h.off x hx ((hs.map Prod.fst).subset hx'), fun x hx => h.loc x ((hs.map Prod.fst).subset hx), h.lt⟩
theorem SyN.perm (h : SyN u Mi N0 N H w) (hs : H.Perm H') : SyN u Mi N0 N H' w :=
  ⟨h.hp.perm hs, h.gr, fun x hx hx' => h.off x hx ((hs.map Prod.fst).mem_iff.2 hx'), fun x hx => h.loc x ((hs.map Prod.fst).mem_iff.2 hx), h.lt⟩
/-- What others do, off the round's blocks and off one's own. -/
theorem SyN.others (h : SyN u Mi N0 N H w) (e : Ext O w w') (hO : ∀ x ∈ O, x ∉ H.map Prod.fst ∧ u.heap.size ≤ x) : SyN u Mi N0 N H w' :=
  ⟨h.hp.others e fun x hx => ⟨(hO x hx).1, .inr (hO x hx).2⟩, h.gr, h.off, h.loc, fun x hx => Nat.lt_of_lt_of_le (h.lt x hx) e.size⟩
theorem SyN.add (h : SyN u Mi N0 N H w) {b : Nat} {o : Obj} (hb : w.heap[b]? = some o) (hn : b ∉ N) (hH : b ∉ H.map Prod.fst) (hu : u.heap.size ≤ b) : SyN u Mi N0 N ((b, o) :: H) w := by
  refine ⟨⟨h.hp.ext, fun q hq => ?_, ?_, fun q hq => ?_⟩, h.gr, fun x hx hx' => ?_, fun x hx => ?_, h.lt⟩
  · rcases List.mem_cons.1 hq with rfl | hq
    · exact hb
    · exact h.hp.get q hq
  · rw [List.map_cons, List.nodup_cons]; exact ⟨hH, h.hp.nodup⟩
  · rcases List.mem_cons.1 hq with rfl | hq
    · exact .inl hu
    · exact h.hp.mine q hq
  · rw [List.map_cons, List.mem_cons] at hx'
    rcases hx' with rfl | hx'
    · exact hn hx
    · exact h.off x hx hx'
  · rw [List.map_cons, List.mem_cons] at hx
    rcases hx with rfl | hx
    · exact .inr hu
    · exact h.loc x hx
theorem SyN.old (h : SyN u Mi N0 N H w) {b : Nat} {o : Obj} (hb : u.heap[b]? = some o) (hn : b ∉ Mi ++ N0) : w.heap[b]? = some o := h.hp.oldM hb hn
theorem SyN.oldN (h : SyN u Mi N0 N H w) {b : Nat} {o : Obj} (hb : u.heap[b]? = some o) (hn : b ∉ Mi) : b ∉ H.map Prod.fst := fun hx => by
  have := (Array.getElem?_eq_some_iff.1 hb).1
  rcases h.loc _ hx with h1 | h1
  · exact hn h1
  · omega
theorem SyN.ltA (h : SyN u Mi N0 N H w) : ∀ x ∈ H.map Prod.fst ++ N, x < w.heap.size := fun x hx => by
  rcases List.mem_append.1 hx with hx | hx
  · obtain ⟨q, hq, rfl⟩ := List.mem_map.1 hx
    exact (Array.getElem?_eq_some_iff.1 (h.hp.get q hq)).1
  · exact h.lt x hx
theorem Hp.headEq {c c' : Array Value} {T : TypeId} {b : Nat} {M : List Nat} (h : Hp u M ((b, .cells c T) :: H) w) (e : c = c') : Hp u M ((b, .cells c' T) :: H) w := e ▸ h
/-- Where a round ends. -/
theorem SyN.round {l D : Nat} {o o' : Obj} {F NJ : List Nat} (h : SyN u (l :: D :: F) NJ N ((l, o) :: (D, o') :: H) w) :
    Grows (F ++ NJ) (H.map Prod.fst ++ N) u ∧ Ext (l :: D :: (F ++ NJ)) u w ∧ w.heap[l]? = some o ∧ w.heap[D]? = some o' ∧ l ∉ H.map Prod.fst ++ N ∧ D ∉ H.map Prod.fst ++ N := by
  have hn := h.hp.nodup
  simp only [List.map_cons, List.nodup_cons, List.mem_cons, not_or] at hn
  refine ⟨fun x hx => ?_, h.hp.ext, h.hp.get _ (.head _), h.hp.get _ (.tail _ (.head _)), fun hx => ?_, fun hx => ?_⟩
  · rcases List.mem_append.1 hx with hx | hx
    · rcases h.loc x (.tail _ (.tail _ hx)) with h1 | h1
      · rcases List.mem_cons.1 h1 with h1 | h1
        · exact absurd (h1 ▸ hx) hn.1.2
        · rcases List.mem_cons.1 h1 with h1 | h1
          · exact absurd (h1 ▸ hx) hn.2.1
          · exact .inl (List.mem_append_left _ h1)
      · exact .inr h1
    · exact (h.gr x hx).imp (fun h1 => List.mem_append_right _ h1) id
  · rcases List.mem_append.1 hx with hx | hx
    · exact hn.1.2 hx
    · exact h.off _ hx (.head _)
  · rcases List.mem_append.1 hx with hx | hx
    · exact hn.2.1 hx
    · exact h.off _ hx (.tail _ (.head _))
end
end Go.Sy
namespace Go.Sy
open Go Go.Proofs Go.RowKit
/-- The function that a method of a pointer type is. -/
def methB (P : Program) (t : TypeId) (name : String) : Option FuncId := match P.info? t, P.underlying t with
  | some ti, some (.pointer _) => match ti.methods.find? (·.name == name) with
    | some m => if m.path.isEmpty = true then match m.func with
      | some (f, true) => some f
      | _ => none else none
    | none => none
  | _, _ => none
section
variable {P : Program} {t : TypeId} {name : String} {f : FuncId}
theorem run_method (h : methB P t name = some f) (fuel : Nat) (v : Value) (w : World) : (method (fuel + 1) t v name).run P w = .ok (f, v) w := by
  unfold methB at h
  split at h
  · rename_i ti e hi hu
    split at h
    · rename_i m hm
      split at h
      · rename_i hp
        split at h
        · rename_i f' hf'
          cases h
          have hp' : m.path.toList = [] := by simpa using hp
          simp [method, run_typeInfo w hi, hm, hp', follow, hf', receiverAt, run_underlying hu, Place.get]
        · cases h
      · cases h
    · cases h
  · cases h
variable {L : List (Nat × Value)} {dd : Option Tmp} {ty : TypeId} {pos : String} {af : Array Edge} {gd : Option (Nat × Bool)}
theorem run_invoke {ρ : Operand → Value} {rc : Operand} {args : List Operand} {ats : Array TypeId} {v : Value} {vs : List Value} {w : World} (hm : methB P t name = some f) (hρ : Agree L ρ) (hE : Enters P f)
    (hr : ev L rc = some (.iface t v)) (hargs : evs L args = some vs) : (execOp ρ ⟨dd, .call ⟨.invoke rc name, args.toArray, ats⟩, ty, pos, af, gd⟩).run P w = .ok (.enter f (#[v] ++ vs.toArray)) w := by
  obtain ⟨n, hn⟩ : ∃ n, P.types.size + Made.depth = n + 1 := ⟨P.types.size + Made.depth - 1, by
    have : 0 < Made.depth := by decide
    omega⟩
  have h1 := run_method hm n v w
  have hev := evs_map hρ _ _ hargs
  have hz : (#[Value.iface t v] ++ vs.toArray).extract 1 (1 + vs.length) = vs.toArray := by
    apply Array.ext'
    simp
  simp [execOp, resolve, invoke, hρ _ _ hr, hev, callMethod, hn, h1, hE _ w, hz]
variable {r : Option Nat} {all : Array Oper} {Q : Exit → Act → World → Prop} {rest : List Oper} {a : Act} {w : World} {n : Nat} {ds : List Deferred} {d : Nat}
theorem o_invoke {rc : Operand} {args : List Operand} {ats : Array TypeId} {v : Value} {vs : List Value} {av : Array Value} {R : Value → World → Prop} (hf : Fr n ds L a) (hm : methB P t name = some f) (hE : Enters P f)
    (hr : ev L rc = some (.iface t v)) (hargs : evs L args = some vs) (hav : #[v] ++ vs.toArray = av) (hc : Calls P f av w (Ret R)) (k : ∀ (v : Value) (a : Act) (w : World), R v w → Fr n ds ((d, v) :: L) a → OpsW P r all Q rest a w)
    (hg : GOn all L ⟨some d, .call ⟨.invoke rc name, args.toArray, ats⟩, ty, pos, af, gd⟩ := by first | exact .inl rfl | exact gon' rfl rfl rfl) (hn : Nat.blt d n = true := by rfl) :
    OpsW P r all Q (⟨some d, .call ⟨.invoke rc name, args.toArray, ats⟩, ty, pos, af, gd⟩ :: rest) a w := by
  subst hav
  refine opsW_enter (hg.wanted hf) rfl (run_invoke hm hf.agree hE hr hargs) ((callsIn_wide (n := 0)).2 hc) fun v w'' hR => ?_
  exact k v _ w'' hR (hf.put (blt_lt hn) v)
end
end Go.Sy
namespace Go.Sy
open Go Go.Proofs Go.RowKit
theorem Hp.addM {w0 w : World} {M : List Nat} {H : List (Nat × Obj)} {b : Nat} {o : Obj} (h : Hp w0 M H w) (hb : w.heap[b]? = some o) (hm : b ∈ M) (hn : b ∉ H.map Prod.fst) : Hp w0 M ((b, o) :: H) w := by
  refine ⟨h.ext, fun q hq => ?_, ?_, fun q hq => ?_⟩
  · rcases List.mem_cons.1 hq with rfl | hq
    · exact hb
    · exact h.get q hq
  · rw [List.map_cons, List.nodup_cons]; exact ⟨hn, h.nodup⟩
  · rcases List.mem_cons.1 hq with rfl | hq
    · exact .inr hm
    · exact h.mine q hq
section
variable {P : Program} {fn : Func} {R : Value → World → Prop} {X : List PanicEntry → World → Prop} {n : Nat} {L : List (Nat × Value)} {a : Act} {w w0 : World} {M : List Nat} {H : List (Nat × Obj)} {Ds : List Nat}
theorem ret_mx (hf : Fr n (mkd Ds) L a) (hh : Hp w0 M (dls Ds ++ H) w) (k : ∀ w', Hp w0 M H w' → ∃ vs, ResAt P L w' fn.results.toList vs ∧ R (tup vs) w') : bodyPostM (FR none) 0 P fn (RetX R X) .ret a w := by
  show LeavesInM (FR none) 0 P fn a.tmps (RetX R X) a.defers .returning w
  rw [hf.defers, ← List.append_nil (mkd Ds)]
  refine leaves_marksU (by simp) Ds H w hh fun w' hw' => ?_
  obtain ⟨vs, h1, h2⟩ := k w' hw'
  have hf0 : Fr n [] L { a with defers := [] } := ⟨hf.size, rfl, hf.get⟩
  exact ⟨_, run_resultsC (a := { a with defers := [] }) hf0 h1, h2⟩
theorem ret_mxn (hf : Fr n (mkd Ds) L a) (hh : Hp w0 M (dls Ds ++ H) w) (k : ∀ w', Hp w0 M H w' → ∃ vs, ResAt P L w' fn.results.toList vs ∧ R (tup vs) w') : bodyPostM (FR none) 0 P fn (RetX R X) .normal a w := ret_mx hf hh k
theorem pan_mx {v : Value} (hf : Fr n (mkd Ds) L a) (hh : Hp w0 M (dls Ds ++ H) w) (k : ∀ w', Hp w0 M H w' → X [{ v := v, recovered := false }] w') : bodyPostM (FR none) 0 P fn (RetX R X) (.panic [{ v := v, recovered := false }]) a w := by
  show LeavesInM (FR none) 0 P fn a.tmps (RetX R X) a.defers (.panicking _) w
  rw [hf.defers, ← List.append_nil (mkd Ds)]
  refine leaves_marksU (by simp) Ds H w hh fun w' hw' => ?_
  exact k w' hw'
end
end Go.Sy
namespace Go.Sy
open Go Go.Proofs
section
variable {P : Program} {C : World → Prop} {L : List (Nat × Value)} {dd : Option Tmp} {ty : TypeId} {pos : String} {af : Array Edge} {gd : Option (Nat × Bool)}
/-- The bits of a number that lie in another one. -/
def andm (p q : Int) : Nat := (BitVec.ofInt 64 p).toNat &&& q.toNat
theorem andm_le (p q : Int) (hq : 0 ≤ q) : ((andm p q : Nat) : Int) ≤ q := by
  have : andm p q ≤ q.toNat := Nat.and_le_right
  omega
theorem yv_andm {t t' : TypeId} {x y : Operand} {p q : Int} (hx : ev L x = some (.int .i64 p)) (hy : ev L y = some (.int .i64 q)) (hq : 0 ≤ q) (hq1 : q ≤ IntKind.top .i64) :
    Yv P C L ⟨dd, .binOp .and t x y t', ty, pos, af, gd⟩ (.int .i64 ((andm p q : Nat) : Int)) := by
  refine yv_bin hx hy ?_
  simp only [binV, Option.some.injEq, Value.int.injEq, true_and]
  rw [BitVec.toNat_and, bits_top hq hq1 (.inl rfl)]
  have h1 := andm_le p q hq
  exact wrap_top (k := .i64) (Int.natCast_nonneg _) (by have := h1; unfold andm at this; exact Int.le_trans this hq1) (.inl rfl)
end
end Go.Sy
namespace Go.Sy
open Go Go.Proofs
set_option linter.unusedSectionVars false
variable {P : Program} {κ : Type} [DecidableEq κ] {enc : κ → Value} {ke : TypeId} {v0 : Value}
/-- A map that holds just the keys of a list, each with the same value. -/
structure SetV (enc : κ → Value) (v0 : Value) (S : List κ) (es : Array MapEntry) (c : Nat) : Prop where
  keys : es.toList.map (·.key) = S.map enc
  val : ∀ e ∈ es.toList, e.val = v0
  nd : S.Nodup
  born : (es.toList.map (·.born)).Nodup
  old : ∀ e ∈ es.toList, e.born < c
theorem SetV.nil (enc : κ → Value) (v0 : Value) : SetV enc v0 [] #[] 0 := ⟨rfl, fun e h => by simp at h, .nil, .nil, fun e h => by simp at h⟩
theorem SetV.memo {S : List κ} {es : Array MapEntry} {c : Nat} (h : SetV enc v0 S es c) : MemoV enc (fun _ => v0) es := fun e he => by
  have h1 : e.key ∈ S.map enc := by rw [← h.keys]; exact List.mem_map.2 ⟨e, he, rfl⟩
  obtain ⟨p, _, hp⟩ := List.mem_map.1 h1
  exact ⟨p, hp.symm, h.val e he⟩
theorem inj_of (hk : KeyOk P ke enc) (w : World) {p q : κ} (h : enc p = enc q) : p = q := by
  have h1 := hk.eq p q w
  have h2 := hk.eq q q w
  rw [h, h2] at h1
  simp at h1
  exact h1
theorem ask_some (hk : KeyOk P ke enc) (p : κ) (w : World) : ∀ (l : List MapEntry) (i : Nat), (∀ e ∈ l, ∃ q, e.key = enc q) → (∃ e ∈ l, e.key = enc p) → (Instr.findAsking ke (enc p) l i).run P w ≠ .ok none w
  | [], _, _, h => by obtain ⟨e, he, _⟩ := h; cases he
  | e :: l, i, hl, h => by
    obtain ⟨q, hq⟩ := hl e (.head _)
    have h0 := hk.eq p q w
    by_cases hpq : p = q
    · subst hpq
      simp [Instr.findAsking, hq, h0]
    · have h2 : ∃ e' ∈ l, e'.key = enc p := by
        obtain ⟨e', he', hk'⟩ := h
        rcases List.mem_cons.1 he' with he' | he'
        · subst he'; exact absurd (inj_of hk w (hk'.symm.trans hq)) hpq
        · exact ⟨e', he', hk'⟩
      have ih := ask_some hk p w l (i + 1) (fun e he => hl e (.tail _ he)) h2
      simpa [Instr.findAsking, hq, h0, hpq] using ih
theorem find_in (hk : KeyOk P ke enc) (p : κ) {F : κ → Value} {es : Array MapEntry} (hm : MemoV enc F es) (he : ∃ e ∈ es.toList, e.key = enc p) (w : World) : (Instr.findKey ke (enc p) es.toList).run P w ≠ .ok none w := by
  obtain ⟨td, h1, h2⟩ := hk.kind
  have hn : ∀ l : List MapEntry, (∀ e ∈ l, ∃ q, e.key = enc q ∧ e.val = F q) → l ≠ [] → Instr.findNow td (enc p) l 0 = none := fun l hl hne => by
    cases l with
    | nil => exact absurd rfl hne
    | cons e l =>
      obtain ⟨q, hq, _⟩ := hl e (by simp)
      simp [Instr.findNow, hq, h2]
  have hne : es.toList ≠ [] := fun e => by obtain ⟨x, hx, _⟩ := he; rw [e] at hx; cases hx
  have h3 := ask_some hk p w es.toList 0 (fun e he => by obtain ⟨q, hq, _⟩ := hm e he; exact ⟨q, hq⟩) he
  simpa [Instr.findKey, run_underlying h1, hn _ hm hne] using h3
def insS (S : List κ) (p : κ) : List κ := if p ∈ S then S else S ++ [p]
section
variable {r : Option Nat} {all : Array Oper} {Q : Exit → Act → World → Prop} {rest : List Oper} {a : Act} {w w0 : World} {M : List Nat} {H : List (Nat × Obj)} {L : List (Nat × Value)} {n : Nat} {ds : List Deferred} {d : Nat} {ty : TypeId} {pos : String} {af : Array Edge} {gd : Option (Nat × Bool)}
theorem ops_mapUpdateS {t el : TypeId} {x y z : Operand} {bm c i : Nat} {es : Array MapEntry} {p : κ} {S : List κ} (hf : Fr n ds L a) (hh : Hp w0 M H w) (hk : KeyOk P ke enc) (ht : mapKE P t = some (ke, el)) (hx : ev L x = some (.map (some bm))) (hy : ev L y = some (enc p))
    (hv : ev L z = some v0) (hi : H[i]? = some (bm, .map es c)) (hm : SetV enc v0 S es c) (hg : GOn all L ⟨none, .mapUpdate t x y z, ty, pos, af, gd⟩)
    (K : ∀ (es' : Array MapEntry) (c' : Nat) (w : World), SetV enc v0 (insS S p) es' c' → Hp w0 M (H.set i (bm, .map es' c')) w → OpsW P r all Q rest a w) : OpsW P r all Q (⟨none, .mapUpdate t x y z, ty, pos, af, gd⟩ :: rest) a w := by
  have h1 := mapKE_eq ht
  have hb := hh.at hi
  have hgo : (getObj bm).run P w = .ok (.map es c) w := by simp [getObj, Sem.run, hb]
  have hc := hk.chk false p w
  have hset : ∀ o, (setObj bm o).run P w = .ok () (w.putObj bm o) := fun o => by simp [setObj, Sem.run, hb, World.putObj]
  have hfm := find_memoV hk p hm.memo
  rcases hfm with ⟨j, a2, e, hej, a5⟩ | a2
  all_goals replace a2 := a2 w
  · have hkeep : (Instr.keyThatStays (((es[j]?).map (·.key)).getD (enc p)) (enc p)).run P w = .ok (enc p) w := by
      rw [hej]; simp [a5, Instr.keyThatStays, hk.bits]
    refine opsW_skip (w' := w.putObj bm (.map (es.modify j fun e => { e with key := enc p, val := v0 }) c)) (hg.wanted hf) rfl ?_ (K _ _ _ ?_ (hh.put hi _))
    · simp [execOp, hf.agree _ _ hx, hf.agree _ _ hy, hf.agree _ _ hv, Instr.mapUpdate, run_underlying h1, hgo, hc, a2, hkeep, hset]
    · have hjl := (Array.getElem?_eq_some_iff.1 hej).1
      have hje := (Array.getElem?_eq_some_iff.1 hej).2
      have hes : es.modify j (fun e => { e with key := enc p, val := v0 }) = es := by
        apply Array.ext
        · simp
        · intro i h1 h2
          rw [Array.getElem_modify]
          split
          · rename_i hji
            subst hji
            have hv2 := hm.val e (by rw [← hje]; simp)
            rw [hje, ← a5, ← hv2]
          · rfl
      have hin : p ∈ S := by
        have : e.key ∈ S.map enc := by rw [← hm.keys]; exact List.mem_map.2 ⟨e, by rw [← hje]; simp, rfl⟩
        obtain ⟨q, hq, he⟩ := List.mem_map.1 this
        have : q = p := inj_of hk w (by rw [he, a5])
        rw [← this]; exact hq
      rw [hes, insS, if_pos hin]
      exact hm
  · refine opsW_skip (w' := w.putObj bm (.map (es.push { key := enc p, val := v0, born := c }) (c + 1))) (hg.wanted hf) rfl ?_ (K _ _ _ ?_ (hh.put hi _))
    · simp [execOp, hf.agree _ _ hx, hf.agree _ _ hy, hf.agree _ _ hv, Instr.mapUpdate, run_underlying h1, hgo, hc, a2, hset]
    · have hno : p ∉ S := fun hp => by
        have h9 : enc p ∈ es.toList.map (·.key) := by rw [hm.keys]; exact List.mem_map.2 ⟨p, hp, rfl⟩
        obtain ⟨e, he, hek⟩ := List.mem_map.1 h9
        exact find_in hk p hm.memo ⟨e, he, hek⟩ w a2
      rw [insS, if_neg hno]
      refine ⟨?_, fun e he => ?_, ?_, ?_, fun e he => ?_⟩
      · rw [Array.toList_push, List.map_append, List.map_append, hm.keys]; rfl
      · rw [Array.toList_push, List.mem_append] at he
        rcases he with he | he
        · exact hm.val e he
        · rw [List.mem_singleton.1 he]
      · rw [List.nodup_append]
        exact ⟨hm.nd, by simp, fun x hx y hy hxy => by rw [List.mem_singleton.1 hy] at hxy; exact hno (hxy ▸ hx)⟩
      · rw [Array.toList_push, List.map_append, List.nodup_append]
        refine ⟨hm.born, by simp, fun x hx y hy hxy => ?_⟩
        obtain ⟨e, he, rfl⟩ := List.mem_map.1 hx
        have := hm.old e he
        simp at hy
        omega
      · rw [Array.toList_push, List.mem_append] at he
        rcases he with he | he
        · have := hm.old e he; omega
        · rw [List.mem_singleton.1 he]; exact Nat.lt_succ_self _
theorem map_one {α β : Type} {f : α → β} : ∀ {l : List α}, (l.map f).Nodup → ∀ {x y : α}, x ∈ l → y ∈ l → f x = f y → x = y
  | [], _, _, _, h, _, _ => by cases h
  | z :: l, h, x, y, hx, hy, e => by
    rw [List.map_cons, List.nodup_cons] at h
    rcases List.mem_cons.1 hx with hx | hx
    · rcases List.mem_cons.1 hy with hy | hy
      · rw [hx, hy]
      · exact absurd (show f z ∈ l.map f from List.mem_map.2 ⟨y, hy, by rw [← hx, e]⟩) h.1
    · rcases List.mem_cons.1 hy with hy | hy
      · exact absurd (show f z ∈ l.map f from List.mem_map.2 ⟨x, hx, by rw [← hy, e]⟩) h.1
      · exact map_one h.2 hx hy e
/-- How far a range over a map has come. -/
def RngAt (enc : κ → Value) (bm : Nat) (es : Array MapEntry) (c : Nat) (done : List κ) (o : Obj) : Prop :=
  ∃ (seen : Array Nat) (dl : List MapEntry), o = .mapIter (some bm) c seen c ∧ (∀ e ∈ dl, e ∈ es.toList) ∧ dl.map (·.key) = done.map enc ∧ seen.toList = dl.map (·.born)
theorem ops_range {t kt vt : TypeId} {x : Operand} {bm c i : Nat} {es : Array MapEntry} (hf : Fr n ds L a) (hh : Hp w0 M H w) (ht : P.underlying t = some (.map kt vt)) (hx : ev L x = some (.map (some bm))) (hi : H[i]? = some (bm, .map es c)) (hg : GOn all L ⟨some d, .range t x, ty, pos, af, gd⟩) (hn : Nat.blt d n = true)
    (K : ∀ (B : Nat) (o : Obj) (a : Act) (w : World), RngAt enc bm es c [] o → Fr n ds ((d, ptr B 0) :: L) a → Hp w0 M ((B, o) :: H) w → OpsW P r all Q rest a w) : OpsW P r all Q (⟨some d, .range t x, ty, pos, af, gd⟩ :: rest) a w := by
  have hb := hh.at hi
  have hgo : (getObj bm).run P w = .ok (.map es c) w := by simp [getObj, Sem.run, hb]
  refine opsW_value (w' := { w with heap := w.heap.push (.mapIter (some bm) c #[] c) }) (v := ptr w.heap.size 0) (hg.wanted hf) rfl ?_ ?_
  · simp [execOp, hf.agree _ _ hx, Instr.range, run_underlying ht, hgo]
  · exact K w.heap.size _ _ _ ⟨#[], [], rfl, (by simp), rfl, rfl⟩ (hf.put (blt_lt hn) _) (hh.alloc _)
theorem ops_next {x : Operand} {B bm c i j : Nat} {es : Array MapEntry} {S done : List κ} {o : Obj} (hk : KeyOk P ke enc) (hf : Fr n ds L a) (hh : Hp w0 M H w) (hx : ev L x = some (ptr B 0)) (hi : H[i]? = some (B, o)) (hj : H[j]? = some (bm, .map es c)) (hm : SetV enc v0 S es c) (ho : RngAt enc bm es c done o) (hg : GOn all L ⟨some d, .next x false, ty, pos, af, gd⟩) (hn : Nat.blt d n = true)
    (K0 : ∀ (a : Act), (∀ p ∈ S, p ∈ done) → Fr n ds ((d, .tuple #[.bool false]) :: L) a → OpsW P r all Q rest a w)
    (K1 : ∀ (p : κ) (o' : Obj) (a : Act) (w : World), p ∈ S → p ∉ done → RngAt enc bm es c (done ++ [p]) o' → Fr n ds ((d, .tuple #[.bool true, enc p, v0]) :: L) a → Hp w0 M (H.set i (B, o')) w → OpsW P r all Q rest a w) : OpsW P r all Q (⟨some d, .next x false, ty, pos, af, gd⟩ :: rest) a w := by
  obtain ⟨seen, dl, rfl, hdl, hdk, hds⟩ := ho
  rcases run_next_at (P := P) w ty B bm c c seen es c (hh.at hi) (hh.at hj) hm.old (Nat.le_refl _) with ⟨h0, hr⟩ | ⟨e, he, w1, hw1, hr⟩
  · refine opsW_value (w' := w) (v := .tuple #[.bool false]) (hg.wanted hf) rfl ?_ (K0 _ ?_ (hf.put (blt_lt hn) _))
    · simp [execOp, hf.agree _ _ hx, hr]
    · intro p hp
      have h9 : enc p ∈ es.toList.map (·.key) := by rw [hm.keys]; exact List.mem_map.2 ⟨p, hp, rfl⟩
      obtain ⟨e, he, hek⟩ := List.mem_map.1 h9
      have hin : e.born ∈ seen.toList := by
        by_cases hs : seen.contains e.born = true
        · rw [Array.contains_iff_mem] at hs; exact Array.mem_toList_iff.2 hs
        · exfalso
          have h8 : e ∈ leftOf es seen := by
            unfold leftOf
            rw [Array.mem_filter]
            exact ⟨Array.mem_toList_iff.1 he, by simpa using hs⟩
          have := Array.size_pos_of_mem h8
          omega
      rw [hds] at hin
      obtain ⟨e', he', hb'⟩ := List.mem_map.1 hin
      have hee : e' = e := map_one hm.born (hdl e' he') he hb'
      have h7 : enc p ∈ done.map enc := by rw [← hdk]; exact List.mem_map.2 ⟨e', he', by rw [hee]; exact hek⟩
      obtain ⟨q, hq, hqe⟩ := List.mem_map.1 h7
      rw [← inj_of hk w hqe]; exact hq
  · have hle : e ∈ es.toList ∧ e.born ∉ seen := by
      rw [Array.mem_toList_iff] at he
      unfold leftOf at he
      rw [Array.mem_filter] at he
      refine ⟨Array.mem_toList_iff.2 he.1, fun h => ?_⟩
      have h2 := he.2
      simp [h] at h2
    have h9 : e.key ∈ S.map enc := by rw [← hm.keys]; exact List.mem_map.2 ⟨e, hle.1, rfl⟩
    obtain ⟨p, hp, hpe⟩ := List.mem_map.1 h9
    have hpd : p ∉ done := fun hpd => by
      have h8 : enc p ∈ dl.map (·.key) := by rw [hdk]; exact List.mem_map.2 ⟨p, hpd, rfl⟩
      obtain ⟨e', he', hk'⟩ := List.mem_map.1 h8
      have hnd : (es.toList.map (·.key)).Nodup := by
        rw [hm.keys]
        exact List.pairwise_map.2 (hm.nd.imp fun {x y} hxy h => hxy (inj_of hk w h))
      have hee : e' = e := map_one hnd (hdl e' he') hle.1 (hk'.trans hpe)
      have : e.born ∈ seen.toList := by rw [hds]; exact List.mem_map.2 ⟨e', he', by rw [hee]⟩
      exact hle.2 (Array.mem_toList_iff.1 this)
    have hh1 : Hp w0 M H w1 := by
      rcases hw1 with rfl | rfl
      · exact hh
      · exact hh.drawn _
    have hput := hh1.put hi (.mapIter (some bm) c (seen.push e.born) c)
    refine opsW_value (w' := Go.ChangeMaps.setBlock w1 B (.mapIter (some bm) c (seen.push e.born) c)) (v := .tuple #[.bool true, e.key, e.val]) (hg.wanted hf) rfl ?_ ?_
    · simp [execOp, hf.agree _ _ hx, hr]
    · have hv := hm.val e hle.1
      rw [← hpe, hv]
      exact K1 p _ _ _ hp hpd ⟨seen.push e.born, dl ++ [e], rfl, fun x hx => by
        rcases List.mem_append.1 hx with hx | hx
        · exact hdl x hx
        · rw [List.mem_singleton.1 hx]; exact hle.1, by rw [List.map_append, List.map_append, hdk]; show _ ++ [e.key] = _ ++ [enc p]; rw [hpe], by rw [Array.toList_push, List.map_append, hds]; rfl⟩ (hf.put (blt_lt hn) _) hput
end
end Go.Sy
namespace Go.Sy
open Go Go.Proofs
section
variable {P : Program} {C : World → Prop} {L : List (Nat × Value)} {dd : Option Tmp} {ty : TypeId} {pos : String} {af : Array Edge} {gd : Option (Nat × Bool)}
theorem yv_shrU {t t' : TypeId} {x y : Operand} {k' : IntKind} {s n : Nat} (hx : ev L x = some (.int .u64 ((s : Nat) : Int))) (hy : ev L y = some (.int k' ((n : Nat) : Int))) (hn : n ≤ 64 := by omega) : Yv P C L ⟨dd, .binOp .shr t x y t', ty, pos, af, gd⟩ (.int .u64 ((s >>> n : Nat) : Int)) :=
  yv_cast (yv_shrx (.inr rfl) hx hy (Int.natCast_nonneg _) (Int.natCast_nonneg _) (by omega)) (intv (by rw [Int.toNat_natCast, Int.toNat_natCast]))
theorem yv_and1U {t t' : TypeId} {x y : Operand} {p k : Nat} (hx : ev L x = some (.int .u64 ((p >>> k : Nat) : Int))) (hy : ev L y = some (.int .u64 1)) (hp : p ≤ 9223372036854775807) :
    Yv P C L ⟨dd, .binOp .and t x y t', ty, pos, af, gd⟩ (.int .u64 (((p >>> k) &&& 1 : Nat) : Int)) := by
  have h : p >>> k ≤ 9223372036854775807 := Nat.le_trans (Nat.shiftRight_le p k) hp
  have h2 := yv_and (P := P) (C := C) (dd := dd) (ty := ty) (pos := pos) (af := af) (gd := gd) (t := t) (t' := t') (k := .u64) (.inr rfl) hx hy (Int.natCast_nonneg _) (by simp only [IntKind.top]; omega) (by omega) (by simp only [IntKind.top]; omega)
  exact h2
theorem yv_bitU {t t' : TypeId} {x y : Operand} {s n : Nat} (hx : ev L x = some (.int .u64 (((s >>> n) &&& 1 : Nat) : Int))) (hy : ev L y = some (.int .u64 1)) : Yv P C L ⟨dd, .binOp .eql t x y t', ty, pos, af, gd⟩ (.bool (s.testBit n)) :=
  yv_cast (yv_bin hx hy rfl) (congrArg Value.bool (by
    cases h : s.testBit n
    · exact decide_eq_false fun e => by
        have := bit1_ne.2 h
        have e : (((s >>> n) &&& 1 : Nat) : Int) = 1 := e
        omega
    · have := bit1_eq.2 h
      exact decide_eq_true (show (((s >>> n) &&& 1 : Nat) : Int) = 1 by omega)))
theorem yv_orU {t t' : TypeId} {x y : Operand} {p q : Nat} (hx : ev L x = some (.int .u64 ((p : Nat) : Int))) (hy : ev L y = some (.int .u64 ((q : Nat) : Int))) (hp : p ≤ 9223372036854775807) (hq : q ≤ 9223372036854775807) : Yv P C L ⟨dd, .binOp .or t x y t', ty, pos, af, gd⟩ (.int .u64 ((p ||| q : Nat) : Int)) :=
  yv_cast (yv_or (.inr rfl) hx hy (Int.natCast_nonneg _) (by simp only [IntKind.top]; omega) (Int.natCast_nonneg _) (by simp only [IntKind.top]; omega)) (intv (by rw [Int.toNat_natCast, Int.toNat_natCast]))
theorem yv_andU {t t' : TypeId} {x y : Operand} {p q : Nat} (hx : ev L x = some (.int .u64 ((p : Nat) : Int))) (hy : ev L y = some (.int .u64 ((q : Nat) : Int))) (hp : p ≤ 9223372036854775807) (hq : q ≤ 9223372036854775807) : Yv P C L ⟨dd, .binOp .and t x y t', ty, pos, af, gd⟩ (.int .u64 ((p &&& q : Nat) : Int)) :=
  yv_cast (yv_and (.inr rfl) hx hy (Int.natCast_nonneg _) (by simp only [IntKind.top]; omega) (Int.natCast_nonneg _) (by simp only [IntKind.top]; omega)) (intv (by rw [Int.toNat_natCast, Int.toNat_natCast]))
end
end Go.Sy
