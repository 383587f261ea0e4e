/- The engine: scopes, ranges over functions, what a call leaves behind, results in cells. -/
import Derived.Test.YtkolcbjghphjeaaDoorE3
namespace Go.Sy
open Go Go.Proofs Go.RowKit

section
variable {P : Program} {r : Option Nat} {Q : Exit → Act → World → Prop} {a : Act} {w : World}

def noGoto (Q : Exit → Act → World → Prop) : Exit → Act → World → Prop
  | .goto _, _, _ => False
  | e, a, w => Q e a w
theorem ng_n (h : Q .normal a w) : noGoto Q .normal a w := h
theorem ng_r (h : Q .ret a w) : noGoto Q .ret a w := h
theorem ng_e {id : Nat} (h : Q (.exit id) a w) : noGoto Q (.exit id) a w := h

theorem sy_scope {c : Code} (h : WP P r c (noGoto Q) a w) : WP P r (.scope c) Q a w := by
  intro b k cs hro hb hr
  have h0 : (lone (b.atR a (.code (.scope c) :: k)) cs w).fenced P (FR r) := fenced_calm hb hr rfl
  obtain ⟨e, a₁, w₁, hq, harr⟩ := h b (.inScope c :: k) cs hro hb hr
  have s0 : step P (lone (b.atR a (.code (.scope c) :: k)) cs w) = .next (lone (b.atR a (.code c :: .inScope c :: k)) cs w) := step_lone_go (by simp [stepG, stepG.exec, Frame.atR])
  have s1 : ∀ a w, step P (lone (b.atR a (.inScope c :: k)) cs w) = .next (lone (b.atR a k) cs w) := fun a w => step_lone_go (by simp [stepG, stepG.exec, Frame.atR])
  cases e with
  | normal => exact ⟨.normal, a₁, w₁, hq, .head h0 s0 (StepsIn.trans harr (.one (fenced_calm hb hr rfl) (s1 _ _)))⟩
  | exit id =>
    have hx : exitTo id (.inScope c :: k) = exitTo id k := by simp [exitTo]
    exact ⟨.exit id, a₁, w₁, hq, fun k' hk => .head h0 s0 (harr.1 k' (by rw [hx]; exact hk)), fun hr' hk => let ⟨k₁, h1, h2⟩ := harr.2 hr' (by rw [hx]; exact hk); ⟨k₁, h1, .head h0 s0 h2⟩⟩
  | goto l => exact hq.elim
  | ret => exact ⟨_, a₁, w₁, hq, .of_steps (.one h0 s0) harr⟩
  | panic ch => exact ⟨_, a₁, w₁, hq, .of_steps (.one h0 s0) harr⟩
  | outgrown => exact ⟨_, a₁, w₁, hq, .of_steps (.one h0 s0) harr⟩
theorem sy_label {l : Nat} (h : Q .normal a w) : WP P r (.label l) Q a w := wpIn_label h
end

/-! ### Results, from slots and from cells -/
def ResAt (P : Program) (L : List (Nat × Value)) (w : World) : List ResultVar → List Value → Prop
  | [], [] => True
  | .tmp t :: l, v :: vs => lk L t = some v ∧ ResAt P L w l vs
  | .cell t ty :: l, v :: vs => (∃ b off c e fr, lk L t = some (ptr b off) ∧ w.heap[b]? = some (.cells c e fr) ∧
      ((scalB P ty = true ∧ c[off]? = some v) ∨ ∃ k us, aggB P ty = some k ∧ cellsAt c off k = some us ∧ v = .agg us.toArray)) ∧ ResAt P L w l vs
  | _, _ => False

theorem run_results_at {P : Program} {n : Nat} {ds : List Deferred} {L : List (Nat × Value)} {a : Act} {w : World} (hf : Fr n ds L a) (f : ResultVar → Sem Value)
    (h1 : ∀ t, f (.tmp t) = pure (a.tmps.getD t undef)) (h2 : ∀ t ty, f (.cell t ty) = (do loadVar ty (← asAddr (a.tmps.getD t undef)))) :
    ∀ (l : List ResultVar) (vs : List Value), ResAt P L w l vs → (l.mapM f).run P w = .ok vs w
  | [], [], _ => by simp
  | [], _ :: _, h => h.elim
  | .tmp t :: l, v :: vs, ⟨h, hr⟩ => by
    have ih := run_results_at hf f h1 h2 l vs hr
    have hv := hf.get t v h
    simp only [List.mapM_cons, Sem.run_bind, h1, ih, Sem.run_pure, Result.andThen_ok, hv]
  | .tmp t :: l, [], h => h.elim
  | .cell t ty :: l, v :: vs, ⟨⟨b, off, c, e, fr, hl, hb, h⟩, hr⟩ => by
    have ih := run_results_at hf f h1 h2 l vs hr
    have hv := hf.get t _ hl
    have hld : (loadVar ty ⟨b, off, none⟩).run P w = .ok v w := by
      rcases h with ⟨hs, hc⟩ | ⟨k, us, hs, hc, rfl⟩
      · have : w.cell? ⟨b, off, none⟩ = some v := by simp [World.cell?, hb, hc]
        simp [loadVar, run_isAgg_scal hs, this]
      · obtain ⟨e1, e2⟩ := cellsAt_get k off us hc
        obtain ⟨h3, h4⟩ := run_isAgg_agg (w := w) hs
        have h5 := run_loadCells_list (P := P) w ⟨b, off, none⟩ us (fun j v hj => by rw [add_spot]; simp [World.cell?, hb, e2 j v hj])
        rw [e1] at h5
        simp [loadVar, h3, h4, h5]
    simp only [List.mapM_cons, Sem.run_bind, h2, hv, asAddr, Sem.run_pure, Result.andThen_ok, hld, ih]
  | .cell t ty :: l, [], h => h.elim

theorem run_resultsC {P : Program} {n : Nat} {ds : List Deferred} {L : List (Nat × Value)} {a : Act} {w : World} {fn : Func} {vs : List Value} (hf : Fr n ds L a) (h : ResAt P L w fn.results.toList vs) :
    (results fn a.tmps).run P w = .ok (tup vs) w := by
  unfold results
  rw [Sem.run_bind, Array.mapM_eq_mapM_toList, Sem.run_map, run_results_at hf _ (fun t => rfl) (fun t ty => rfl) _ _ h]
  simp only [Result.andThen_ok, Sem.run_pure]
  congr 1
  match vs with
  | [] => rfl
  | [v] => rfl
  | u :: v :: l => simp [tup]

section
variable {P : Program} {a : Act} {w : World} {n : Nat} {L : List (Nat × Value)} {fn : Func} {R : Value → World → Prop}
theorem ret_c {vs : List Value} (hf : Fr n [] L a) (hr : ResAt P L w fn.results.toList vs) (h : R (tup vs) w) : bodyPost P fn (Ret R) .ret a w := ⟨hf.defers, _, run_resultsC hf hr, h⟩
theorem ret_cn {vs : List Value} (hf : Fr n [] L a) (hr : ResAt P L w fn.results.toList vs) (h : R (tup vs) w) : bodyPost P fn (Ret R) .normal a w := ⟨hf.defers, _, run_resultsC hf hr, h⟩

/-! ### What a range over a function leaves behind -/
def mkd (Ds : List Nat) : List Deferred := Ds.map fun D => { target := .collected D, args := #[] }
def dls (Ds : List Nat) : List (Nat × Obj) := Ds.map fun D => (D, .deferred (some []))

theorem putObj_ext (w : World) (b : Nat) (o : Obj) : Ext [b] w (w.putObj b o) :=
  ⟨rfl, rfl, rfl, by simp [World.putObj], fun k _ hk => World.putObj_heap_other (by simpa using hk)⟩

theorem Hp.put {w0 : World} {M : List Nat} {H : List (Nat × Obj)} (h : Hp w0 M H w) {i b : Nat} {o : Obj} (hi : H[i]? = some (b, o)) (o' : Obj) : Hp w0 M (H.set i (b, o')) (w.putObj b o') :=
  h.turn hi (putObj_ext w b o') (World.putObj_heap_same (Array.getElem?_eq_some_iff.1 (h.at hi)).1)

theorem leaves_marks {w0 : World} {M : List Nat} (hf : Fr n [] L { a with defers := [] }) : ∀ (Ds : List Nat) (H : List (Nat × Obj)) (w : World), Hp w0 M (dls Ds ++ H) w →
    (∀ w', Hp w0 M H w' → ∃ vs, ResAt P L w' fn.results.toList vs ∧ R (tup vs) w') → LeavesInM (FR none) 0 P fn a.tmps (Ret R) (mkd Ds) .returning w
  | [], H, w, hh, k => by
    obtain ⟨vs, h1, h2⟩ := k w hh
    exact ⟨_, run_resultsC (a := { a with defers := [] }) hf h1, h2⟩
  | D :: Ds, H, w, hh, k => by
    have hi : (dls (D :: Ds) ++ H)[0]? = some (D, .deferred (some [])) := rfl
    refine ⟨by simp, .inl ⟨D, w.putObj D (.deferred none), rfl, run_takeDeferred (hh.at hi), ?_⟩⟩
    exact leaves_marks hf Ds H _ ((hh.put hi (.deferred none)).less (.cons _ (List.Sublist.refl _))) k

theorem ret_m {w0 : World} {M : List Nat} {H : List (Nat × Obj)} {Ds : List Nat} (hf : Fr n (mkd Ds) L a) (hh : Hp w0 M (dls Ds ++ H) w)
    (k : ∀ w', Hp w0 M H w' → ∃ vs, ResAt P L w' fn.results.toList vs ∧ R (tup vs) w') : bodyPostM (FR none) 0 P fn (Ret R) .ret a w := by
  have h := leaves_marks (fn := fn) (R := R) (P := P) (a := a) (L := L) (n := n) ⟨hf.size, rfl, hf.get⟩ Ds H w hh k
  show LeavesInM (FR none) 0 P fn a.tmps (Ret R) a.defers .returning w
  rw [hf.defers]; exact h
theorem ret_mn {w0 : World} {M : List Nat} {H : List (Nat × Obj)} {Ds : List Nat} (hf : Fr n (mkd Ds) L a) (hh : Hp w0 M (dls Ds ++ H) w)
    (k : ∀ w', Hp w0 M H w' → ∃ vs, ResAt P L w' fn.results.toList vs ∧ R (tup vs) w') : bodyPostM (FR none) 0 P fn (Ret R) .normal a w := ret_m hf hh k

theorem calls_ofM {f : FuncId} {c : Code} {vs : List Value} (hf : P.funcs[f]? = some fn) (hb : fn.body = some c) (hn : Nat.ble vs.length fn.ntmps = true)
    (h : ∀ a, Fr fn.ntmps (mkd []) (argL 0 vs) a → WP P none c (bodyPostM (FR none) 0 P fn (Ret R)) a w) : Calls P f vs.toArray w (Ret R) :=
  (callsIn_wide (n := 0)).1 (callsIn_of_wp_marks (F := FR none) hf hb trivial (h _ (Fr.enter vs fn.ntmps (Nat.le_of_ble_eq_true hn))) rfl)
end

/-! ### Ranges over functions -/
abbrev rec0 (fn : Nat) (tmps : Array Value) (ps : Array Tmp) (asg body : Code) (D : Nat) (s : LoopState) (p : Option Code) : Loop :=
  { state := s, pending := p, fn := fn, tmps := tmps, params := ps, assign := asg, body := body, defers := D }

/-- A call of yield with these arguments runs one round. -/
def Yld (P : Program) (l : Nat) (args : Array Value) (w : World) (R : Value → World → Prop) : Prop :=
  ∃ rc : Loop, w.heap[l]? = some (.loop rc) ∧ args.size = rc.params.size ∧
    RoundIn (FR none) 0 P l rc.fn ((rc.params.zip args).foldl (fun tmps (t, a) => tmps.setIfInBounds t a) rc.tmps) rc.assign rc.body w (Ret R)

/-- An iterator: the function f, with what it has captured, hands these things to yield, one after the other, till a round says no. -/
def IterSpec (P : Program) (f : FuncId) (fs cs : Array Value) (xs : List (Array Value)) (Mem : World → Prop) : Prop :=
  ∀ (l : Nat) (J K : Nat → World → Prop) (w : World), (∀ k w, J k w → Mem w) → (∀ k w w', J k w → Ext [] w w' → J k w') → (∀ k w w', K k w → Ext [] w w' → K k w') →
    (∀ k w args, xs[k]? = some args → J k w → Yld P l args w (fun v w' => (v = .bool true ∧ J (k + 1) w') ∨ (v = .bool false ∧ K k w'))) →
    J 0 w → Calls P f (fs ++ #[.func (.yield l) #[] #[]] ++ cs) w (Ret fun _ w' => J xs.length w' ∨ ∃ k, K k w')

section
variable {P : Program} {r : Option Nat} {all : Array Oper} {rest : List Oper} {a : Act} {w : World} {n : Nat} {ds : List Deferred} {L : List (Nat × Value)} {d : Nat}
  {ty : TypeId} {pos : String} {af : Array Edge} {gd : Option (Nat × Bool)} {Q : Exit → Act → World → Prop}

/-- A call of yield. -/
theorem ops_yield {fop : Operand} {args : List Operand} {ats : Array TypeId} {l : Nat} {vs : List Value} {R : Value → World → Prop} (hf : Fr n ds L a)
    (hfv : ev L fop = some (.func (.yield l) #[] #[])) (hargs : evs L args = some vs) (hg : GOn all L ⟨some d, .call ⟨.value fop, args.toArray, ats⟩, ty, pos, af, gd⟩) (hn : Nat.blt d n = true)
    (hc : Yld P l vs.toArray w R) (k : ∀ (v : Value) (a : Act) (w : World), R v w → Fr n ds ((d, v) :: L) a → OpsW P r all Q rest a w) :
    OpsW P r all Q (⟨some d, .call ⟨.value fop, args.toArray, ats⟩, ty, pos, af, gd⟩ :: rest) a w := by
  obtain ⟨rc, h1, h2, h3⟩ := hc
  have hrun : (execOp a.eval ⟨some d, .call ⟨.value fop, args.toArray, ats⟩, ty, pos, af, gd⟩).run P w = .ok (.round l rc.fn ((rc.params.zip vs.toArray).foldl (fun tmps (t, a) => tmps.setIfInBounds t a) rc.tmps) rc.assign rc.body) w := by
    have := run_yield (P := P) h1 h2
    simp [execOp, resolve, Deferred.ofValue, invoke, hf.agree _ _ hfv, evs_map hf.agree _ _ hargs, this]
  simp only [OpsW, hg.wanted hf, if_true, Oper.wpIn, semAt_of (o := ⟨some d, .call ⟨.value fop, args.toArray, ats⟩, ty, pos, af, gd⟩) rfl]
  rw [hrun]
  exact ⟨fun _ _ => trivial, depth_triv r 0, (h3 : RoundIn (FR r) 0 P l rc.fn _ rc.assign rc.body w (Ret R)).mono fun e w'' he => by cases e <;> first | exact k _ _ _ he (hf.put (blt_lt hn) _) | exact he.elim⟩
end

def zipL : List Nat → List Value → List (Nat × Value)
  | t :: ts, v :: vs => (t, v) :: zipL ts vs
  | _, _ => []

theorem Fr.zip {n : Nat} {ds : List Deferred} : ∀ (ts : List Nat) (vs : List Value) (L : List (Nat × Value)) (a : Act), Fr n ds L a → (ts.all fun t => Nat.blt t n) = true → ts.length = vs.length →
    Fr n ds (zipL ts.reverse vs.reverse ++ L) { a with tmps := (ts.zip vs).foldl (fun tmps p => tmps.setIfInBounds p.1 p.2) a.tmps }
  | [], [], L, a, h, _, _ => h
  | t :: ts, v :: vs, L, a, h, hb, hl => by
    simp only [List.all_cons, Bool.and_eq_true] at hb
    have h1 := h.put (blt_lt hb.1) v
    have h2 := Fr.zip ts vs _ _ h1 hb.2 (by simpa using hl)
    have e : zipL (t :: ts).reverse (v :: vs).reverse ++ L = zipL ts.reverse vs.reverse ++ (t, v) :: L := by
      have key : ∀ (xs : List Nat) (bs : List Value), xs.length = bs.length → zipL (xs ++ [t]) (bs ++ [v]) = zipL xs bs ++ [(t, v)] := by
        intro xs
        induction xs with
        | nil => intro bs hb; cases bs with
          | nil => rfl
          | cons _ _ => simp at hb
        | cons x xs ih => intro bs hb; cases bs with
          | nil => simp at hb
          | cons y bs => simp [zipL, ih bs (by simpa using hb)]
      rw [List.reverse_cons, List.reverse_cons, key _ _ (by simpa using hl)]
      simp
    rw [e]; exact h2
  | [], _ :: _, _, _, _, _, hl => by simp at hl
  | _ :: _, [], _, _, _, _, hl => by simp at hl

/-- How a round may end. -/
def RoundEnd (w0 : World) (M : List Nat) (l : Nat) (bz : Loop) (D : Nat) (I : List (Nat × Obj) → Prop) (X : Code → List (Nat × Obj) → Prop) : Exit → Act → World → Prop
  | .normal, _, w => ∃ H, I H ∧ Hp w0 M ((l, .loop bz) :: (D, .deferred (some [])) :: H) w
  | .ret, _, w => ∃ H, X .ret H ∧ Hp w0 M ((l, .loop bz) :: (D, .deferred (some [])) :: H) w
  | .exit id, _, w => ∃ H, X (.exit id) H ∧ Hp w0 M ((l, .loop bz) :: (D, .deferred (some [])) :: H) w
  | _, _, _ => False

/-- What is asked behind the assignment to the loop's variables. -/
def Begun (P : Program) (l : Nat) (body : Code) (Q : Exit → Act → World → Prop) (a : Act) (w : World) : Prop :=
  ∃ w2, (Instr.beginRound l).run P w = .ok () w2 ∧ WP P (some l) body Q a w2

theorem begun {P : Program} {w0 : World} {M : List Nat} {H : List (Nat × Obj)} {l i : Nat} {body : Code} {Q : Exit → Act → World → Prop} {a : Act} {w : World} {fn D : Nat} {tmps : Array Value} {ps : Array Tmp} {asg bd : Code} {p : Option Code}
    (hh : Hp w0 M H w) (hi : H[i]? = some (l, .loop (rec0 fn tmps ps asg bd D .ready p)))
    (k : ∀ w, Hp w0 M (H.set i (l, .loop (rec0 fn tmps ps asg bd D .busy p))) w → WP P (some l) body Q a w) : Begun P l body Q a w :=
  ⟨_, run_beginRound (hh.at hi) rfl, k _ (hh.put hi _)⟩

section
variable {P : Program} {Q : Exit → Act → World → Prop} {a : Act} {w w0 : World} {M : List Nat} {H : List (Nat × Obj)} {n : Nat} {ds : List Deferred} {L : List (Nat × Value)}

theorem sy_range {g : Operand} {ps : List Tmp} {asg body : Code} {f : FuncId} {fs cs : Array Value} {xs : List (Array Value)} {Mem : World → Prop} (I : Nat → List (Nat × Obj) → Prop) (X : Nat → Code → List (Nat × Obj) → Prop)
    (hf : Fr n ds L a) (hh : Hp w0 M H w) (hE : Enters P f) (hg : ev L g = some (.func (.func f) fs cs)) (it : IterSpec P f fs cs xs Mem)
    (hps : (ps.all fun t => Nat.blt t n) = true) (hsz : ∀ x ∈ xs, x.size = ps.length)
    (hI0 : I 0 H) (hMem : ∀ k H l D o w, I k H → Hp w0 M ((l, o) :: (D, .deferred (some [])) :: H) w → Mem w)
    (hround : ∀ k x fn D l H w a' tm, xs[k]? = some x → I k H → Hp w0 M ((l, .loop (rec0 fn tm ps.toArray asg body D .ready none)) :: (D, .deferred (some [])) :: H) w → Fr n [] (zipL ps.reverse x.toList.reverse ++ L) a' →
      WP P (some l) asg (Exit.then (Begun P l body (RoundEnd w0 M l (rec0 fn tm ps.toArray asg body D .busy none) D (I (k + 1)) (X k))) (fun _ _ _ => False)) a' w)
    (hdone : ∀ D H a w, I xs.length H → Fr n ({ target := .collected D, args := #[] } :: ds) L a → Hp w0 M ((D, .deferred (some [])) :: H) w → Q .normal a w)
    (hstop : ∀ k c D H a w, X k c H → Fr n ({ target := .collected D, args := #[] } :: ds) L a → Hp w0 M ((D, .deferred (some [])) :: H) w → WP P none c Q a w) :
    WP P none (.rangeFunc g ps.toArray asg body) Q a w := by
  refine wpIn_rangeFunc fun fn _ => ?_
  have hres : ∀ l, (resolve a.eval (rangeCall g l) 0).run P ((w.alloc (.deferred (some []))).alloc (.loop (rec0 fn a.tmps ps.toArray asg body w.heap.size .ready none))) = .ok { target := .fn (.func f) cs, args := fs ++ #[.func (.yield l) #[] #[]] } ((w.alloc (.deferred (some []))).alloc (.loop (rec0 fn a.tmps ps.toArray asg body w.heap.size .ready none))) := by
    intro l
    have h0 := hf.agree _ _ hg
    simp only [resolve, h0, Deferred.ofValue, Sem.run_pure, List.map_toArray, List.map_cons, List.map_nil]
    rfl
  refine ⟨_, _, _, _, _, f, fs ++ #[.func (.yield (w.heap.size + 1)) #[] #[]] ++ cs, _, run_enterLoop_outer fn a.tmps ps.toArray asg body, hres _, fun _ _ => trivial, by simp only [invoke]; exact hE _ _, depth_triv none 0, ?_⟩
  have h2 : Hp w0 M ((w.heap.size + 1, .loop (rec0 fn a.tmps ps.toArray asg body w.heap.size .ready none)) :: (w.heap.size, .deferred (some [])) :: H) ((w.alloc (.deferred (some []))).alloc (.loop (rec0 fn a.tmps ps.toArray asg body w.heap.size .ready none))) := by
    have e1 := hh.alloc (.deferred (some []))
    have e2 := e1.alloc (.loop (rec0 fn a.tmps ps.toArray asg body w.heap.size .ready none))
    have e3 : ({ w with heap := w.heap.push (.deferred (some [])) } : World).heap.size = w.heap.size + 1 := by simp
    rw [e3] at e2
    exact e2
  generalize hl : w.heap.size + 1 = l at h2 ⊢
  generalize hD : w.heap.size = D at h2 ⊢
  generalize (w.alloc (.deferred (some []))).alloc (.loop (rec0 fn a.tmps ps.toArray asg body D .ready none)) = w1 at h2 ⊢
  let J : Nat → World → Prop := fun k w => ∃ H, I k H ∧ Hp w0 M ((l, .loop (rec0 fn a.tmps ps.toArray asg body D .ready none)) :: (D, .deferred (some [])) :: H) w
  let K : Nat → World → Prop := fun k w => ∃ c H, X k c H ∧ Hp w0 M ((l, .loop (rec0 fn a.tmps ps.toArray asg body D .done (some c))) :: (D, .deferred (some [])) :: H) w
  have hy : ∀ k w args, xs[k]? = some args → J k w → Yld P l args w (fun v w' => (v = .bool true ∧ J (k + 1) w') ∨ (v = .bool false ∧ K k w')) := by
    rintro k w args hx ⟨Hk, hIk, hw⟩
    have hlen : args.size = ps.length := hsz args (List.mem_of_getElem? hx)
    refine ⟨_, hw.at (i := 0) rfl, by simpa using hlen, ?_⟩
    have hfr : Fr n [] (zipL ps.reverse args.toList.reverse ++ L) { tmps := (ps.zip args.toList).foldl (fun tmps p => tmps.setIfInBounds p.1 p.2) a.tmps, defers := [] } :=
      Fr.zip ps args.toList L { a with defers := [] } ⟨hf.size, rfl, hf.get⟩ hps (by simpa using hlen.symm)
    have hfold : (ps.toArray.zip args).foldl (fun tmps (t, a) => tmps.setIfInBounds t a) a.tmps = (ps.zip args.toList).foldl (fun tmps p => tmps.setIfInBounds p.1 p.2) a.tmps := by
      rw [← Array.foldl_toList, Array.toList_zip]
    refine roundIn_of_wpIn trivial ?_
    have hr := hround k args fn D l Hk w _ a.tmps hx hIk hw hfr
    rw [show (rec0 fn a.tmps ps.toArray asg body D .ready none).params = ps.toArray from rfl, show (rec0 fn a.tmps ps.toArray asg body D .ready none).tmps = a.tmps from rfl, hfold]
    refine wpIn_mono hr fun e a1 w1 he => ?_
    cases e with
    | normal =>
      obtain ⟨w2, hb, hbody⟩ := he
      refine ⟨w2, hb, wpIn_mono hbody fun e a2 w3 h3 => ?_⟩
      cases e with
      | normal =>
        obtain ⟨H', hI', hw'⟩ := h3
        exact ⟨_, _, run_endRound none (hw'.at (i := 0) rfl), .inl ⟨rfl, H', hI', hw'.put (i := 0) rfl _⟩⟩
      | ret =>
        obtain ⟨H', hX', hw'⟩ := h3
        exact ⟨_, _, run_endRound (some .ret) (hw'.at (i := 0) rfl), .inr ⟨rfl, .ret, H', hX', hw'.put (i := 0) rfl _⟩⟩
      | exit id =>
        obtain ⟨H', hX', hw'⟩ := h3
        exact ⟨_, _, run_endRound (some (.exit id)) (hw'.at (i := 0) rfl), .inr ⟨rfl, .exit id, H', hX', hw'.put (i := 0) rfl _⟩⟩
      | goto t => exact h3.elim
      | panic c => exact h3.elim
      | outgrown => exact h3.elim
    | exit id => exact he.elim
    | goto t => exact he.elim
    | ret => exact he.elim
    | panic c => exact he.elim
    | outgrown => exact he.elim
  have hcall := it l J K w1 (fun k w ⟨H, h1, h2⟩ => hMem k H l D _ w h1 h2) (fun k w w' ⟨H, h1, h2⟩ e => ⟨H, h1, h2.more e⟩) (fun k w w' ⟨c, H, h1, h2⟩ e => ⟨c, H, h1, h2.more e⟩) hy ⟨H, hI0, h2⟩
  refine ((callsIn_wide (n := 0)).2 hcall : CallsIn (FR none) 0 P f _ w1 _).mono fun e w3 he => ?_
  cases e with
  | returned v =>
    have fr : Fr n ({ target := .collected D, args := #[] } :: ds) L { a with defers := [{ target := .collected D, args := #[] }] ++ a.defers } := ⟨hf.size, by simp [hf.defers], hf.get⟩
    rcases he with ⟨H', hI', hw'⟩ | ⟨k, c, H', hX', hw'⟩
    · exact ⟨_, _, run_endLoop (hw'.at (i := 0) rfl) (by simp), hdone D H' _ _ hI' fr ((hw'.put (i := 0) rfl _).less (.cons _ (List.Sublist.refl _)))⟩
    · exact ⟨_, _, run_endLoop (hw'.at (i := 0) rfl) (by simp), hstop k c D H' _ _ hX' fr ((hw'.put (i := 0) rfl _).less (.cons _ (List.Sublist.refl _)))⟩
  | panicked c => exact he.elim
  | outgrown => exact he.elim
end
end Go.Sy
