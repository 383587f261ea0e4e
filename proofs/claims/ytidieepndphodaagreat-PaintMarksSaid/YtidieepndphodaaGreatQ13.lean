/- Lemmas, in order: The engine: panics, and calls that are deferred. The engine: iterators with blocks of their own; ranges over them. The engine: a deferred closure that recovers and calls; interfaces. The engine: how a function leaves that defers a closure which recovers.. -/
import Derived.Test.YtidieepndphodaaGreatQ12
import Derived.RecoverIn
namespace Go.Sy
open Go Go.Proofs Go.RowKit
/-- The call returned, and so; or it panicked, and so. -/
def RetX (R : Value → World → Prop) (X : List PanicEntry → World → Prop) : Ending → World → Prop
  | .returned v, w => R v w
  | .panicked c, w => X c w
  | .outgrown, _ => False
section
variable {P : Program} {r : Option Nat} {all : Array Oper} {Q : Exit → Act → World → Prop} {rest : List Oper} {a : Act} {w w0 : World} {n : Nat} {ds : List Deferred} {L : List (Nat × Value)} {v : Value} {d : Nat}
  {ty : TypeId} {pos : String} {af : Array Edge} {gd : Option (Nat × Bool)}
theorem opsW_enterX {o : Oper} {w' : World} {f : FuncId} {args : Array Value} {R : Value → World → Prop} {X : List PanicEntry → World → Prop}
    (hg : Region.wanted o (yielded all a.tmps) = true) (hd : isDefer o.op = false) (h : (execOp a.eval o).run P w = .ok (.enter f args) w')
    (hc : CallsIn (FR r) 0 P f args w' (RetX R X)) (k : ∀ v w'', R v w'' → OpsW P r all Q rest (a.put o.dst v) w'') (kx : ∀ c w'', X c w'' → Q (.panic c) a w'') : OpsW P r all Q (o :: rest) a w := by
  simp only [OpsW, hg, if_true, Oper.wpIn, semAt_of hd]
  rw [h]
  exact ⟨fun _ _ => trivial, depth_triv r 0, hc.mono fun e w'' he => by
    cases e with
    | returned v => exact k _ _ he
    | panicked c => exact kx _ _ he
    | outgrown => exact he.elim⟩
theorem o_callX {fop : Operand} {args : List Operand} {ats : Array TypeId} {f : FuncId} {fs cs : Array Value} {vs : List Value} {av : Array Value} {R : Value → World → Prop} {X : List PanicEntry → World → Prop} (hf : Fr n ds L a) (hE : Enters P f)
    (hfv : ev L fop = some (.func (.func f) fs cs)) (hargs : evs L args = some vs) (hav : fs ++ vs.toArray ++ cs = av) (hc : Calls P f av w (RetX R X))
    (k : ∀ (v : Value) (a : Act) (w : World), R v w → Fr n ds ((d, v) :: L) a → OpsW P r all Q rest a w) (kx : ∀ c w', X c w' → Fr n ds L a → Q (.panic c) a w')
    (hg : GOn all L ⟨some d, .call ⟨.value fop, args.toArray, ats⟩, ty, pos, af, gd⟩ := by first | exact .inl rfl | exact gon' rfl rfl rfl) (hn : Nat.blt d n = true := by rfl) :
    OpsW P r all Q (⟨some d, .call ⟨.value fop, args.toArray, ats⟩, ty, pos, af, gd⟩ :: rest) a w := by
  subst hav
  refine opsW_enterX (hg.wanted hf) rfl (run_call hf.agree hE hfv hargs) ((callsIn_wide (n := 0)).2 hc) (fun v w'' hR => ?_) fun c w'' hX => kx c w'' hX hf
  exact k v _ w'' hR (hf.put (blt_lt hn) v)
/-- The text's own panic. -/
theorem o_panic {x : Operand} {T : TypeId} {dd : Option Nat} (hf : Fr n ds L a) (h : Fr n ds L a → Q (.panic [{ v := .iface T v, recovered := false }]) a w) (hx : ev L x = some (.iface T v) := by rfl)
    (hg : GOn all L ⟨dd, .panic x, ty, pos, af, gd⟩ := by first | exact .inl rfl | exact gon' rfl rfl rfl) : OpsW P r all Q (⟨dd, .panic x, ty, pos, af, gd⟩ :: rest) a w := by
  have h1 := hf.agree x _ hx
  simp only [OpsW, hg.wanted hf, if_true, Oper.wpIn, semAt_of (r := r) (ρ := a.eval) (o := ⟨dd, .panic x, ty, pos, af, gd⟩) rfl]
  refine ⟨fun _ _ => trivial, ?_⟩
  have e : (execOp a.eval ⟨dd, .panic x, ty, pos, af, gd⟩).run P w = .halt (.panic (.iface T v)) w := by
    simp [execOp, h1, Instr.panic]
  rw [e]
  exact h hf
/-- A call that is deferred. -/
theorem o_defer {fop : Operand} {args : List Operand} {ats : Array TypeId} {fn : Fn} {fs cs : Array Value} {vs : List Value} (hf : Fr n ds L a)
    (k : ∀ (a : Act), Fr n (⟨.fn fn cs, fs ++ vs.toArray⟩ :: ds) L a → OpsW P none all Q rest a w) (hfv : ev L fop = some (.func fn fs cs) := by rfl) (hargs : evs L args = some vs := by rfl)
    (hg : GOn all L ⟨none, .defer ⟨.value fop, args.toArray, ats⟩, ty, pos, af, gd⟩ := by first | exact .inl rfl | exact gon' rfl rfl rfl) :
    OpsW P none all Q (⟨none, .defer ⟨.value fop, args.toArray, ats⟩, ty, pos, af, gd⟩ :: rest) a w := by
  have h1 := hf.agree fop _ hfv
  have h2 := evs_map hf.agree _ _ hargs
  simp only [OpsW, hg.wanted hf, if_true, Oper.wpIn]
  refine ⟨fun _ _ => trivial, ?_⟩
  have e : (Oper.semAt none a.eval ⟨none, .defer ⟨.value fop, args.toArray, ats⟩, ty, pos, af, gd⟩).run P w = .ok (.defer ⟨.fn fn cs, fs ++ vs.toArray⟩) w := by
    rw [Oper.semAt_none]
    simp [execOp, resolve, Deferred.ofValue, h1, h2]
  show Oper.uponIn _ _ _ _ _ _ _ (Sem.run P (Oper.semAt none a.eval _) w)
  rw [e]
  exact k _ ⟨hf.size, by show _ :: a.defers = _; rw [hf.defers], hf.get⟩
end
section
variable {P : Program} {a : Act} {w : World} {n : Nat} {ds : List Deferred} {L : List (Nat × Value)} {fn : Func} {R : Value → World → Prop} {X : List PanicEntry → World → Prop}
theorem calls_ofX {f : FuncId} {c : Code} {vs : List Value} (hf : P.funcs[f]? = some fn) (hb : fn.body = some c) (hn : Nat.ble vs.length fn.ntmps = true)
    (h : ∀ a, Fr fn.ntmps [] (argL 0 vs) a → WP P none c (bodyPost P fn (RetX R X)) a w) : Calls P f vs.toArray w (RetX R X) :=
  (callsIn_wide (n := 0)).1 (callsIn_of_wp (F := FR none) hf hb trivial (h _ (Fr.enter vs fn.ntmps (Nat.le_of_ble_eq_true hn))) rfl)
theorem calls_ofMX {f : FuncId} {c : Code} {vs : List Value} (hf : P.funcs[f]? = some fn) (hb : fn.body = some c) (hn : Nat.ble vs.length fn.ntmps = true)
    (h : ∀ a, Fr fn.ntmps [] (argL 0 vs) a → WP P none c (bodyPostM (FR none) 0 P fn (RetX R X)) a w) : Calls P f vs.toArray w (RetX R X) :=
  (callsIn_wide (n := 0)).1 (callsIn_of_wp_marks (F := FR none) hf hb trivial (h _ (Fr.enter vs fn.ntmps (Nat.le_of_ble_eq_true hn))) rfl)
theorem ret_x (h : bodyPost P fn (Ret R) .ret a w) : bodyPost P fn (RetX R X) .ret a w := h
theorem ret_xn (h : bodyPost P fn (Ret R) .normal a w) : bodyPost P fn (RetX R X) .normal a w := h
theorem pan_x {c : List PanicEntry} (hf : Fr n [] L a) (h : X c w) : bodyPost P fn (RetX R X) (.panic c) a w := ⟨hf.defers, h⟩
theorem Calls.toX {f : FuncId} {args : Array Value} (h : Calls P f args w (Ret R)) : Calls P f args w (RetX R X) :=
  (callsIn_wide (n := 0)).1 (((callsIn_wide (n := 0)).2 h).mono fun e w' he => by
    cases e with
    | returned v => exact he
    | panicked c => exact he.elim
    | outgrown => exact he.elim)
/-- A deferred call of a function, where the frame leaves. -/
theorem leaves_call {tmps : Array Value} {R' : Ending → World → Prop} {f : FuncId} {cap args : Array Value} {u : FrameMode} (hu : u ≠ .run) (hE : Enters P f)
    (hc : CallsDIn (FR none) 0 P f (args ++ cap) u w (fun e u' w' => ∃ v, e = .returned v ∧ LeavesInM (FR none) 0 P fn tmps R' ds (settle u') w')) :
    LeavesInM (FR none) 0 P fn tmps R' (⟨.fn (.func f) cap, args⟩ :: ds) u w := by
  refine ⟨hu, .inr ⟨depth_triv none 0, .func f, cap, f, args ++ cap, rfl, hE _ w, fun _ _ => trivial, hc.mono fun e u' w' he => ?_⟩⟩
  obtain ⟨v, rfl, h⟩ := he
  exact h
end
end Go.Sy
namespace Go.Sy
open Go Go.Proofs Go.RowKit
/-- The blocks of N' are those of N, or new. -/
def Grows (N N' : List Nat) (w : World) : Prop := ∀ x ∈ N', x ∈ N ∨ w.heap.size ≤ x
theorem Grows.refl (N : List Nat) (w : World) : Grows N N w := fun _ h => .inl h
theorem Grows.trans {N N' N'' : List Nat} {w w' : World} (h : Grows N N' w) (h' : Grows N' N'' w') (hs : w.heap.size ≤ w'.heap.size) : Grows N N'' w := fun x hx => by
  rcases h' x hx with h1 | h1
  · exact h x h1
  · exact .inr (Nat.le_trans hs h1)
/-- An iterator that may turn the blocks of Mi, and whose own facts are Own: it hands these things to yield, one after the other, till a round says no. The rounds turn blocks of N alone. -/
def IterF (P : Program) (f : FuncId) (fs cs : Array Value) (xs : List (Array Value)) (Mi : List Nat) (Own : List Nat → World → Prop) : Prop :=
  ∀ (l : Nat) (J K : Nat → List Nat → World → Prop) (w : World) (N : List Nat),
    (∀ k N v, J k N v → ∀ x ∈ N, x < v.heap.size) → (∀ k N v, K k N v → ∀ x ∈ N, x < v.heap.size) →
    (∀ k N v v' O, J k N v → Ext O v v' → (∀ x ∈ O, x ∉ N ∧ (x ∈ Mi ∨ w.heap.size ≤ x)) → J k N v') →
    (∀ k N v v' O, K k N v → Ext O v v' → (∀ x ∈ O, x ∉ N ∧ (x ∈ Mi ∨ w.heap.size ≤ x)) → K k N v') →
    (∀ k N v args, xs[k]? = some args → J k N v → Yld P l args v (fun b v' => ∃ N', Grows N N' v ∧ Ext N v v' ∧ ((b = .bool true ∧ J (k + 1) N' v') ∨ (b = .bool false ∧ K k N' v')))) →
    J 0 N w → Own N w → Calls P f (fs ++ #[.func (.yield l) #[] #[]] ++ cs) w (Ret fun _ w' => ∃ N', Own N' w' ∧ (J xs.length N' w' ∨ ∃ k, K k N' w'))
/-- How a round may end. -/
def RoundG (v : World) (l : Nat) (bz : Loop) (D : Nat) (N : List Nat) (St : List Nat → World → Prop) (X : Code → List Nat → World → Prop) : Exit → Act → World → Prop
  | .normal, _, v' => ∃ N', St N' v' ∧ Grows N N' v ∧ Ext (l :: D :: N) v v' ∧ v'.heap[l]? = some (.loop bz) ∧ v'.heap[D]? = some (.deferred (some [])) ∧ l ∉ N' ∧ D ∉ N'
  | .ret, _, v' => ∃ N', X .ret N' v' ∧ Grows N N' v ∧ Ext (l :: D :: N) v v' ∧ v'.heap[l]? = some (.loop bz) ∧ v'.heap[D]? = some (.deferred (some [])) ∧ l ∉ N' ∧ D ∉ N'
  | .exit id, _, v' => ∃ N', X (.exit id) N' v' ∧ Grows N N' v ∧ Ext (l :: D :: N) v v' ∧ v'.heap[l]? = some (.loop bz) ∧ v'.heap[D]? = some (.deferred (some [])) ∧ l ∉ N' ∧ D ∉ N'
  | _, _, _ => False
theorem Ext.put {O : List Nat} {v w : World} {b : Nat} (h : Ext O v w) (hb : b ∈ O) (o : Obj) : Ext O v (w.putObj b o) :=
  h.trans ((putObj_ext w b o).mono (by simpa using hb))
section
variable {P : Program} {Q : Exit → Act → World → Prop} {a : Act} {w : World} {n : Nat} {ds : List Deferred} {L : List (Nat × Value)}
theorem sy_rangeG {g : Operand} {ps : List Tmp} {asg body : Code} {f : FuncId} {fs cs : Array Value} {xs : List (Array Value)} {Mi : List Nat} {Own : List Nat → World → Prop}
    (St : Nat → List Nat → World → Prop) (X : Nat → Code → List Nat → World → Prop) (N0 : List Nat)
    (hf : Fr n ds L a) (hE : Enters P f) (hg : ev L g = some (.func (.func f) fs cs)) (it : IterF P f fs cs xs Mi Own)
    (hps : (ps.all fun t => Nat.blt t n) = true) (hsz : ∀ x ∈ xs, x.size = ps.length)
    (hS0 : St 0 N0 w) (hO0 : ∀ N' w', Ext [] w w' → Grows N0 N' w → Own N' w')
    (hlt : ∀ k N v, St k N v → ∀ x ∈ N, x < v.heap.size) (hltX : ∀ k c N v, X k c N v → ∀ x ∈ N, x < v.heap.size)
    (hst : ∀ k N v v' O, St k N v → Ext O v v' → (∀ x ∈ O, x ∉ N ∧ (x ∈ Mi ∨ w.heap.size ≤ x)) → St k N v')
    (hstX : ∀ k c N v v' O, X k c N v → Ext O v v' → (∀ x ∈ O, x ∉ N ∧ (x ∈ Mi ∨ w.heap.size ≤ x)) → X k c N v')
    (hround : ∀ k x fn D l N v a' tm, xs[k]? = some x → St k N v → Hp v (l :: D :: N) [(l, .loop (rec0 fn tm ps.toArray asg body D .ready none)), (D, .deferred (some []))] v → l ∉ N → D ∉ N → w.heap.size ≤ l → w.heap.size ≤ D → Fr n [] (zipL ps.reverse x.toList.reverse ++ L) a' →
      WP P (some l) asg (Exit.then (Begun P l body (RoundG v l (rec0 fn tm ps.toArray asg body D .busy none) D N (St (k + 1)) (X k))) (fun _ _ _ => False)) a' v)
    (hdone : ∀ D N N' a v, St xs.length N v → Own N' v → D ∉ N → v.heap[D]? = some (.deferred (some [])) → w.heap.size ≤ D → Fr n ({ target := .collected D, args := #[] } :: ds) L a → Q .normal a v)
    (hstop : ∀ k c D N N' a v, X k c N v → Own N' v → D ∉ N → v.heap[D]? = some (.deferred (some [])) → w.heap.size ≤ D → Fr n ({ target := .collected D, args := #[] } :: ds) L a → WP P none c Q a v)
    (hOS : ∀ N v v' b, Own N v → b ∈ N → Ext [b] v v' → Own N v') :
    WP P none (.rangeFunc g ps.toArray asg body) Q a w := by
  refine wpIn_rangeFunc fun fn _ => ?_
  have hres : ∀ l, (resolve a.eval (rangeCall g l) 0).run P ((w.alloc (.deferred (some []))).alloc (.loop (rec0 fn a.tmps ps.toArray asg body w.heap.size .ready none))) = .ok { target := .fn (.func f) cs, args := fs ++ #[.func (.yield l) #[] #[]] } ((w.alloc (.deferred (some []))).alloc (.loop (rec0 fn a.tmps ps.toArray asg body w.heap.size .ready none))) := by
    intro l
    have h0 := hf.agree _ _ hg
    simp only [resolve, h0, Deferred.ofValue, Sem.run_pure, List.map_toArray, List.map_cons, List.map_nil]
    rfl
  refine ⟨_, _, _, _, _, f, fs ++ #[.func (.yield (w.heap.size + 1)) #[] #[]] ++ cs, _, run_enterLoop_outer fn a.tmps ps.toArray asg body, hres _, fun _ _ => trivial, by simp only [invoke]; exact hE _ _, depth_triv none 0, ?_⟩
  have h2 : Hp w [] [(w.heap.size + 1, .loop (rec0 fn a.tmps ps.toArray asg body w.heap.size .ready none)), (w.heap.size, .deferred (some []))] ((w.alloc (.deferred (some []))).alloc (.loop (rec0 fn a.tmps ps.toArray asg body w.heap.size .ready none))) := by
    have e1 := (Hp.init w []).alloc (.deferred (some []))
    have e2 := e1.alloc (.loop (rec0 fn a.tmps ps.toArray asg body w.heap.size .ready none))
    have e3 : ({ w with heap := w.heap.push (.deferred (some [])) } : World).heap.size = w.heap.size + 1 := by simp
    rw [e3] at e2
    exact e2
  have hDl : w.heap.size ≠ w.heap.size + 1 := by omega
  have hwl : w.heap.size ≤ w.heap.size + 1 := by omega
  have hwD : w.heap.size ≤ w.heap.size := Nat.le_refl _
  have hn0 := hlt 0 N0 w hS0
  have hlN : w.heap.size + 1 ∉ N0 := fun h => by have := hn0 _ h; omega
  have hDN : w.heap.size ∉ N0 := fun h => by have := hn0 _ h; omega
  generalize hl : w.heap.size + 1 = l at h2 hDl hwl hlN ⊢
  generalize hD : (w.heap.size : Nat) = D at h2 hDl hwD hDN ⊢
  generalize (w.alloc (.deferred (some []))).alloc (.loop (rec0 fn a.tmps ps.toArray asg body D .ready none)) = w1 at h2 ⊢
  replace hwD : w.heap.size ≤ D := Nat.le_of_eq hD
  let J : Nat → List Nat → World → Prop := fun k N' v => ∃ N, N' = l :: D :: N ∧ St k N v ∧ v.heap[l]? = some (.loop (rec0 fn a.tmps ps.toArray asg body D .ready none)) ∧ v.heap[D]? = some (.deferred (some [])) ∧ l ∉ N ∧ D ∉ N
  let K : Nat → List Nat → World → Prop := fun k N' v => ∃ N c, N' = l :: D :: N ∧ X k c N v ∧ v.heap[l]? = some (.loop (rec0 fn a.tmps ps.toArray asg body D .done (some c))) ∧ v.heap[D]? = some (.deferred (some [])) ∧ l ∉ N ∧ D ∉ N
  have lt2 : ∀ {v : World} {N : List Nat} {o o' : Obj}, v.heap[l]? = some o → v.heap[D]? = some o' → (∀ x ∈ N, x < v.heap.size) → ∀ x ∈ l :: D :: N, x < v.heap.size := fun h1 h3 hN x hx => by
    rcases List.mem_cons.1 hx with rfl | hx
    · exact (Array.getElem?_eq_some_iff.1 h1).1
    · rcases List.mem_cons.1 hx with rfl | hx
      · exact (Array.getElem?_eq_some_iff.1 h3).1
      · exact hN x hx
  have keep : ∀ {v v' : World} {O : List Nat} {b : Nat} {o : Obj}, v.heap[b]? = some o → Ext O v v' → b ∉ O → v'.heap[b]? = some o := fun h e hb => e.getM h hb
  have hy : ∀ k N' v args, xs[k]? = some args → J k N' v → Yld P l args v (fun b v' => ∃ N'', Grows N' N'' v ∧ Ext N' v v' ∧ ((b = .bool true ∧ J (k + 1) N'' v') ∨ (b = .bool false ∧ K k N'' v'))) := by
    rintro k N' v args hx ⟨N, rfl, hS, hvl, hvD, hl1, hD1⟩
    have hlen : args.size = ps.length := hsz args (List.mem_of_getElem? hx)
    refine ⟨_, hvl, by simpa using hlen, ?_⟩
    have hfr : Fr n [] (zipL ps.reverse args.toList.reverse ++ L) { tmps := (ps.zip args.toList).foldl (fun tmps p => tmps.setIfInBounds p.1 p.2) a.tmps, defers := [] } :=
      Fr.zip ps args.toList L { a with defers := [] } ⟨hf.size, rfl, hf.get⟩ hps (by simpa using hlen.symm)
    have hfold : (ps.toArray.zip args).foldl (fun tmps (t, a) => tmps.setIfInBounds t a) a.tmps = (ps.zip args.toList).foldl (fun tmps p => tmps.setIfInBounds p.1 p.2) a.tmps := by
      rw [← Array.foldl_toList, Array.toList_zip]
    refine roundIn_of_wpIn trivial ?_
    have hh : Hp v (l :: D :: N) [(l, .loop (rec0 fn a.tmps ps.toArray asg body D .ready none)), (D, .deferred (some []))] v :=
      ⟨.refl _ _, fun p hp => by
        rcases List.mem_cons.1 hp with rfl | hp
        · exact hvl
        · rw [List.mem_singleton] at hp; subst hp; exact hvD, by simp; exact fun e => hDl e.symm, fun p hp => by
        rcases List.mem_cons.1 hp with rfl | hp
        · exact .inr (.head _)
        · rw [List.mem_singleton] at hp; subst hp; exact .inr (.tail _ (.head _))⟩
    have hr := hround k args fn D l N v _ a.tmps hx hS hh hl1 hD1 hwl hwD hfr
    rw [show (rec0 fn a.tmps ps.toArray asg body D .ready none).params = ps.toArray from rfl, show (rec0 fn a.tmps ps.toArray asg body D .ready none).tmps = a.tmps from rfl, hfold]
    have gr : ∀ {N'' : List Nat}, Grows N N'' v → Grows (l :: D :: N) (l :: D :: N'') v := fun hg x hx => by
      rcases List.mem_cons.1 hx with rfl | hx
      · exact .inl (.head _)
      · rcases List.mem_cons.1 hx with rfl | hx
        · exact .inl (.tail _ (.head _))
        · rcases hg x hx with h1 | h1
          · exact .inl (.tail _ (.tail _ h1))
          · exact .inr h1
    refine wpIn_mono hr fun e a1 v1 he => ?_
    cases e with
    | normal =>
      obtain ⟨v2, hb, hbody⟩ := he
      refine ⟨v2, hb, wpIn_mono hbody fun e a2 v3 h3 => ?_⟩
      have hsame : ∀ {o : Obj} {w3 : World} {b : Nat}, b ≠ l → (w3.putObj l o).heap[b]? = w3.heap[b]? := fun hne => World.putObj_heap_other (fun e => hne e)
      cases e with
      | normal =>
        obtain ⟨N'', hI', hgr, hex, q1, q2, q3, q4⟩ := h3
        have hsz3 := hlt _ _ _ hI'
        refine ⟨_, _, run_endRound none q1, l :: D :: N'', gr hgr, hex.put (.head _) _, .inl ⟨rfl, N'', rfl, hst _ _ _ _ [l] hI' (putObj_ext _ _ _) (fun x hx => by rw [List.mem_singleton] at hx; subst hx; exact ⟨q3, .inr hwl⟩), World.putObj_heap_same (Array.getElem?_eq_some_iff.1 q1).1, ?_, q3, q4⟩⟩
        rw [hsame hDl]; exact q2
      | ret =>
        obtain ⟨N'', hI', hgr, hex, q1, q2, q3, q4⟩ := h3
        refine ⟨_, _, run_endRound (some .ret) q1, l :: D :: N'', gr hgr, hex.put (.head _) _, .inr ⟨rfl, N'', .ret, rfl, hstX _ _ _ _ _ [l] hI' (putObj_ext _ _ _) (fun x hx => by rw [List.mem_singleton] at hx; subst hx; exact ⟨q3, .inr hwl⟩), World.putObj_heap_same (Array.getElem?_eq_some_iff.1 q1).1, ?_, q3, q4⟩⟩
        rw [hsame hDl]; exact q2
      | exit id =>
        obtain ⟨N'', hI', hgr, hex, q1, q2, q3, q4⟩ := h3
        refine ⟨_, _, run_endRound (some (.exit id)) q1, l :: D :: N'', gr hgr, hex.put (.head _) _, .inr ⟨rfl, N'', .exit id, rfl, hstX _ _ _ _ _ [l] hI' (putObj_ext _ _ _) (fun x hx => by rw [List.mem_singleton] at hx; subst hx; exact ⟨q3, .inr hwl⟩), World.putObj_heap_same (Array.getElem?_eq_some_iff.1 q1).1, ?_, q3, q4⟩⟩
        rw [hsame hDl]; exact q2
      | goto t => exact h3.elim
      | panic c => exact h3.elim
      | outgrown => exact h3.elim
    | exit id => exact he.elim
    | goto t => exact he.elim
    | ret => exact he.elim
    | panic c => exact he.elim
    | outgrown => exact he.elim
  have st1 : St 0 N0 w1 := hst _ _ _ _ [] hS0 h2.ext (by simp)
  have hcall := it l J K w1 (l :: D :: N0)
    (fun k N' v ⟨N, e, h1, h3, h4, _⟩ => by subst e; exact lt2 h3 h4 (hlt _ _ _ h1))
    (fun k N' v ⟨N, c, e, h1, h3, h4, _⟩ => by subst e; exact lt2 h3 h4 (hltX _ _ _ _ h1))
    (fun k N' v v' O ⟨N, e, h1, h3, h4, h5, h6⟩ ex hO => by
      subst e
      have hs := h2.ext.size
      have off : ∀ b, b ∈ l :: D :: N → b ∉ O := fun b hb hx => (hO b hx).1 hb
      exact ⟨N, rfl, hst _ _ _ _ O h1 ex (fun x hx => ⟨fun hn => (hO x hx).1 (.tail _ (.tail _ hn)), (hO x hx).2.imp id fun h => Nat.le_trans hs h⟩), ex.getM h3 (off l (.head _)), ex.getM h4 (off D (.tail _ (.head _))), h5, h6⟩)
    (fun k N' v v' O ⟨N, c, e, h1, h3, h4, h5, h6⟩ ex hO => by
      subst e
      have hs := h2.ext.size
      have off : ∀ b, b ∈ l :: D :: N → b ∉ O := fun b hb hx => (hO b hx).1 hb
      exact ⟨N, c, rfl, hstX _ _ _ _ _ O h1 ex (fun x hx => ⟨fun hn => (hO x hx).1 (.tail _ (.tail _ hn)), (hO x hx).2.imp id fun h => Nat.le_trans hs h⟩), ex.getM h3 (off l (.head _)), ex.getM h4 (off D (.tail _ (.head _))), h5, h6⟩)
    hy ⟨N0, rfl, st1, h2.at (i := 0) rfl, h2.at (i := 1) rfl, hlN, hDN⟩
    (hO0 _ _ h2.ext fun x hx => by
      rcases List.mem_cons.1 hx with rfl | hx
      · exact .inr hwl
      · rcases List.mem_cons.1 hx with rfl | hx
        · exact .inr hwD
        · exact .inl hx)
  refine ((callsIn_wide (n := 0)).2 hcall : CallsIn (FR none) 0 P f _ w1 _).mono fun e w3 he => ?_
  cases e with
  | returned v =>
    have fr : Fr n ({ target := .collected D, args := #[] } :: ds) L { a with defers := [{ target := .collected D, args := #[] }] ++ a.defers } := ⟨hf.size, by simp [hf.defers], hf.get⟩
    have hsame : ∀ {o : Obj} {w3 : World} {b : Nat}, b ≠ l → (w3.putObj l o).heap[b]? = w3.heap[b]? := fun hne => World.putObj_heap_other (fun e => hne e)
    obtain ⟨N', hOwn, he⟩ := he
    rcases he with ⟨N, rfl, h1, h3, h4, h5, h6⟩ | ⟨k, N, c, rfl, h1, h3, h4, h5, h6⟩
    · exact ⟨_, _, run_endLoop h3 (by simp), hdone D N _ _ _ (hst _ _ _ _ [l] h1 (putObj_ext _ _ _) (fun x hx => by rw [List.mem_singleton] at hx; subst hx; exact ⟨h5, .inr hwl⟩)) (hOS _ _ _ l hOwn (.head _) (putObj_ext _ _ _)) h6 (by rw [hsame hDl]; exact h4) hwD fr⟩
    · exact ⟨_, _, run_endLoop h3 (by simp), hstop k c D N _ _ _ (hstX _ _ _ _ _ [l] h1 (putObj_ext _ _ _) (fun x hx => by rw [List.mem_singleton] at hx; subst hx; exact ⟨h5, .inr hwl⟩)) (hOS _ _ _ l hOwn (.head _) (putObj_ext _ _ _)) h6 (by rw [hsame hDl]; exact h4) hwD fr⟩
  | panicked c => exact he.elim
  | outgrown => exact he.elim
end
end Go.Sy
namespace Go.Sy
open Go Go.Proofs Go.RowKit
section
variable {P : Program} {Q : Exit → Act → List Frame → World → Prop} {a : Act} {cs : List Frame} {w : World}
theorem stepsR_recover {n : Nat} {b : Frame} {k : List Item} {o : Oper} {rest : List Oper} (hb : b.kind = .deferred) (hro : b.roundOf = none) (hF : (FR none).fn b.fn) (hroom : (FR none).room (cs.length + 1 + n))
    (hg : o.guard = none) (hd : o.op = .call ⟨.builtin .recover, #[], #[]⟩) (v : Value) (cs' : List Frame) (hv : recoverD cs = some (v, cs') ∨ recoverD cs = none ∧ v = .nilIface ∧ cs' = cs) (l : List Nat) :
    (lone (b.atR a (.inRegion (o :: rest).toArray (0 :: l) :: k)) cs w).fenced P (FR none) ∧ step P (lone (b.atR a (.inRegion (o :: rest).toArray (0 :: l) :: k)) cs w) = .next (lone (b.atR (a.put o.dst v) (.inRegion (o :: rest).toArray l :: k)) cs' w) := by
  have ho : (o :: rest).toArray[0]? = some o := by simp
  have hw : Region.wanted o (yielded (o :: rest).toArray a.tmps) = true := by simp [Region.wanted, hg]
  have hr : (execOp a.eval o).run P w = .ok .recover w := by
    obtain ⟨od, oo, ot, op, oa, og⟩ := o
    simp only at hd hg
    subst hd
    simp [execOp, resolve, invoke, builtin]
  refine ⟨fenced_oper hF hroom ho (fun f _ => trivial), ?_⟩
  have hg := stepGR_op (P := P) (b := b) (a := a) (k := k) (cs := cs) (w := w) (rest := l) ho hw
  rw [hro, Oper.semAt_none] at hg
  have hfin : ∀ v, (b.atR a (.inRegion (o :: rest).toArray (0 :: l) :: k)).finish v = b.atR (a.put o.dst v) (.inRegion (o :: rest).toArray l :: k) := by
    intro v; rw [Frame.finish_atR, ho]; rfl
  have hk : (b.atR a (.inRegion (o :: rest).toArray (0 :: l) :: k)).kind = .deferred := hb
  have htr := tryRecover_deferred hk cs
  refine step_lone_go ?_
  rw [hg, ← hfin]
  simp only [Frame.atR, hro] at htr ⊢
  rcases hv with h1 | ⟨h1, h2, h3⟩
  · simp [stepG.apply, hr, htr, h1]
  · subst h2; subst h3; simp [stepG.apply, hr, htr, h1]
/-- A region that recovers, and goes on. -/
theorem wpSIn_recover {id : Nat} {o : Oper} {rest : List Oper} {v : Value} {cs' : List Frame} (hg : o.guard = none) (hd : o.op = .call ⟨.builtin .recover, #[], #[]⟩)
    (hv : recoverD cs = some (v, cs') ∨ recoverD cs = none ∧ v = .nilIface ∧ cs' = cs) (h : OpsW P none (o :: rest).toArray (fun e a' w' => Q e a' cs' w') rest (a.put o.dst v) w) :
    (Code.region id (o :: rest).toArray false).wpSIn (FR none) 0 P Q a cs w := by
  intro b k hb hro hF hroom
  have hlen : cs'.length = cs.length := by
    rcases hv with h1 | ⟨_, _, h3⟩
    · exact recoverD_length h1
    · rw [h3]
  obtain ⟨hfen, hst⟩ := stepsR_recover (P := P) (a := a) (w := w) (k := k) hb hro hF hroom hg hd v cs' hv (List.range' 1 rest.length)
  have hops := opsW_sound (P := P) (r := none) (ops := (o :: rest).toArray) rest 1 (a.put o.dst v) w (fun j _ => by simp [Nat.add_comm 1 j]) h
  obtain ⟨e, a', w', hq, harr⟩ := wp_opsIn _ _ _ hops b k cs' hro hF (hlen ▸ hroom)
  have hrange : List.range (o :: rest).toArray.size = 0 :: List.range' 1 rest.length := by
    simp [List.range_eq_range', List.range'_succ]
  refine ⟨e, a', cs', w', hlen, hq, .of_steps (.one (fenced_calm hF hroom rfl) stepR_region) ?_⟩
  rw [hrange]
  exact .of_steps (.one hfen hst) harr
end
section
variable {P : Program} {C : World → Prop} {L : List (Nat × Value)} {dd : Option Tmp} {ty : TypeId} {pos : String} {af : Array Edge} {gd : Option (Nat × Bool)}
def ifaceB (P : Program) (t : TypeId) : Bool := match P.underlying t with
  | some (.interface _) => true
  | _ => false
theorem ifaceB_eq {t : TypeId} (ht : ifaceB P t = true) : ∃ ms, P.underlying t = some (.interface ms) := by
  unfold ifaceB at ht
  split at ht
  · rename_i ms hu; exact ⟨ms, hu⟩
  · cases ht
theorem run_eqNil (d : Nat) {t : TypeId} (ht : ifaceB P t = true) (w : World) : (Op.equalIn (d + 1) t .nilIface .nilIface).run P w = .ok true w ∧ ∀ tx v, (Op.equalIn (d + 1) t (.iface tx v) .nilIface).run P w = .ok false w := by
  obtain ⟨ms, hu⟩ := ifaceB_eq ht
  exact ⟨by simp [Op.equalIn, run_underlying hu], fun tx v => by simp [Op.equalIn, run_underlying hu]⟩
theorem yv_isNil {t t' : TypeId} {x y : Operand} (ht : ifaceB P t = true) (hx : ev L x = some .nilIface) (hy : y = .const .nilIface) :
    Yv P C L ⟨dd, .binOp .eql t x y t', ty, pos, af, gd⟩ (.bool true) := fun ρ hρ w _ => by
  subst hy
  have h0 : ρ (.const .nilIface) = .nilIface := hρ _ _ rfl
  have e : (binOp .eql t .nilIface .nilIface).run P w = .ok (.bool true) w := by
    show (do pure (.bool (← Op.equal t .nilIface .nilIface)) : Sem Value).run P w = _
    rw [Sem.run_bind, show (Op.equal t .nilIface .nilIface).run P w = .ok true w from (run_eqNil 9999 ht w).1]; rfl
  have g : (eqGuard .eql t x (.const .nilIface) .nilIface .nilIface).run P w = .ok () w := by simp [eqGuard]
  simp only [execOp, hρ _ _ hx, h0, Sem.run_bind, g, Result.andThen_ok, e, Sem.run_pure]
theorem yv_notNil {t t' tx : TypeId} {v : Value} {x y : Operand} (ht : ifaceB P t = true) (hx : ev L x = some (.iface tx v)) (hy : y = .const .nilIface) :
    Yv P C L ⟨dd, .binOp .eql t x y t', ty, pos, af, gd⟩ (.bool false) := fun ρ hρ w _ => by
  subst hy
  have h0 : ρ (.const .nilIface) = .nilIface := hρ _ _ rfl
  have e : (binOp .eql t (.iface tx v) .nilIface).run P w = .ok (.bool false) w := by
    show (do pure (.bool (← Op.equal t (.iface tx v) .nilIface)) : Sem Value).run P w = _
    rw [Sem.run_bind, show (Op.equal t (.iface tx v) .nilIface).run P w = .ok false w from (run_eqNil 9999 ht w).2 tx v]; rfl
  have g : (eqGuard .eql t x (.const .nilIface) (.iface tx v) .nilIface).run P w = .ok () w := by simp [eqGuard]
  simp only [execOp, hρ _ _ hx, h0, Sem.run_bind, g, Result.andThen_ok, e, Sem.run_pure]
def plainB (P : Program) (t : TypeId) : Bool := match P.underlying t with
  | some (.struct _) => true
  | _ => false
/-- The type that is asked for. -/
theorem yv_assert {t tx : TypeId} {v : Value} {x : Operand} (ht : plainB P tx = true) (hx : ev L x = some (.iface tx v)) :
    Yv P C L ⟨dd, .typeAssert x t tx true, ty, pos, af, gd⟩ (.tuple #[v, .bool true]) := fun ρ hρ w _ => by
  unfold plainB at ht
  split at ht
  · rename_i fs hu
    simp [execOp, hρ _ _ hx, Instr.typeAssert, run_underlying hu]
  · cases ht
def concB (P : Program) (t : TypeId) : Bool := match P.underlying t with
  | some (.interface _) => false
  | some _ => true
  | none => false
theorem yv_makeIface {t : TypeId} {v : Value} {x : Operand} (ht : concB P t = true) (hx : ev L x = some v) :
    Yv P C L ⟨dd, .makeInterface t x, ty, pos, af, gd⟩ (.iface t v) := fun ρ hρ w _ => by
  unfold concB at ht
  split at ht
  · cases ht
  · rename_i td hne hu
    have e : (Instr.makeInterface t v).run P w = .ok (.iface t v) w := by
      unfold Instr.makeInterface
      rw [Sem.run_bind, run_underlying hu]
      simp only [Result.andThen_ok]
      rfl
    simp [execOp, hρ _ _ hx, e]
  · cases ht
end
end Go.Sy
namespace Go.Sy
open Go Go.Proofs Go.RowKit
section
variable {P : Program} {r : Option Nat} {Q : Exit → Act → World → Prop} {a : Act} {w : World} {c : List PanicEntry}
theorem then_p {K : Act → World → Prop} (h : Q (.panic c) a w) : Exit.then K Q (.panic c) a w := h
theorem blk_p {id : Nat} (h : Q (.panic c) a w) : Exit.inBlock id Q (.panic c) a w := h
theorem ng_p (h : Q (.panic c) a w) : noGoto Q (.panic c) a w := h
end
section
variable {P : Program} {fn : Func} {R : Value → World → Prop} {n : Nat} {L : List (Nat × Value)} {a : Act} {w w0 : World} {M : List Nat}
theorem leaves_marksU {tmps : Array Value} {R' : Ending → World → Prop} {ds : List Deferred} {u : FrameMode} (hu : u ≠ .run) : ∀ (Ds : List Nat) (H : List (Nat × Obj)) (w : World), Hp w0 M (dls Ds ++ H) w →
    (∀ w', Hp w0 M H w' → LeavesInM (FR none) 0 P fn tmps R' ds u w') → LeavesInM (FR none) 0 P fn tmps R' (mkd Ds ++ ds) u w
  | [], H, w, hh, k => k w hh
  | D :: Ds, H, w, hh, k => by
    have hi : (dls (D :: Ds) ++ H)[0]? = some (D, .deferred (some [])) := rfl
    refine ⟨hu, .inl ⟨D, w.putObj D (.deferred none), rfl, run_takeDeferred (hh.at hi), ?_⟩⟩
    exact leaves_marksU hu Ds H _ ((hh.put hi (.deferred none)).less (.cons _ (List.Sublist.refl _))) k
/-- Behind the last deferred call. -/
theorem ret_d {f : FuncId} {cap : Array Value} {Ds : List Nat} {H : List (Nat × Obj)} (hf : Fr n (mkd Ds ++ [⟨.fn (.func f) cap, #[]⟩]) L a) (hh : Hp w0 M (dls Ds ++ H) w) (hE : Enters P f)
    (hc : ∀ w', CallsDIn (FR none) 0 P f cap .returning w' (fun e u' w'' => (∃ v, e = .returned v) ∧ u' = .returning ∧ Ext [] w' w''))
    (k : ∀ w', Hp w0 M H w' → ∃ vs, ResAt P L w' fn.results.toList vs ∧ R (tup vs) w') : bodyPostM (FR none) 0 P fn (Ret R) .ret a w := by
  show LeavesInM (FR none) 0 P fn a.tmps (Ret R) a.defers .returning w
  rw [hf.defers]
  refine leaves_marksU (by simp) Ds H w hh fun w' hw' => ?_
  refine leaves_call (args := #[]) (by simp) hE ?_
  rw [Array.empty_append]
  refine (hc w').mono fun e u' w'' he => ?_
  obtain ⟨⟨v, rfl⟩, rfl, hx⟩ := he
  obtain ⟨vs, h1, h2⟩ := k w'' (hw'.more hx)
  have hf0 : Fr n [] L { a with defers := [] } := ⟨hf.size, rfl, hf.get⟩
  exact ⟨v, rfl, _, run_resultsC (a := { a with defers := [] }) hf0 h1, h2⟩
theorem pan_d {f : FuncId} {cap : Array Value} {Ds : List Nat} {H : List (Nat × Obj)} {v : Value} {R2 : World → World → Prop} (hf : Fr n (mkd Ds ++ [⟨.fn (.func f) cap, #[]⟩]) L a) (hh : Hp w0 M (dls Ds ++ H) w) (hE : Enters P f)
    (hc : ∀ w', Hp w0 M H w' → CallsDIn (FR none) 0 P f cap (.panicking [{ v := v, recovered := false }]) w' (fun e u' w'' => (∃ v, e = .returned v) ∧ u' = .panicking [{ v := v, recovered := true }] ∧ R2 w' w''))
    (k : ∀ w' w'', Hp w0 M H w' → R2 w' w'' → ∃ vs, ResAt P L w'' fn.results.toList vs ∧ R (tup vs) w'') : bodyPostM (FR none) 0 P fn (Ret R) (.panic [{ v := v, recovered := false }]) a w := by
  show LeavesInM (FR none) 0 P fn a.tmps (Ret R) a.defers (.panicking _) w
  rw [hf.defers]
  refine leaves_marksU (by simp) Ds H w hh fun w' hw' => ?_
  refine leaves_call (args := #[]) (by simp) hE ?_
  rw [Array.empty_append]
  refine (hc w' hw').mono fun e u' w'' he => ?_
  obtain ⟨⟨v', rfl⟩, rfl, hx⟩ := he
  obtain ⟨vs, h1, h2⟩ := k w' w'' hw' hx
  have hf0 : Fr n [] L { a with defers := [] } := ⟨hf.size, rfl, hf.get⟩
  exact ⟨v', rfl, _, run_resultsC (a := { a with defers := [] }) hf0 h1, h2⟩
/-- The end of a deferred closure without results. -/
theorem ends_s {c₀ : Frame} {cs : List Frame} {u' : FrameMode} {R' : Ending → FrameMode → World → Prop} {fr : Frame} (hf : Fr n [] L a) (hr : fn.results = #[]) (hfr : fr = { c₀ with mode := u' }) (h : R' (.returned (.tuple #[])) u' w) : bodyPostS P fn c₀ cs R' .normal a (fr :: cs) w :=
  ⟨hf.defers, u', by rw [hfr], .tuple #[], by simp [results, hr], h⟩
theorem frame_same {c₀ : Frame} {u : FrameMode} (h : c₀.mode = u) : c₀ = { c₀ with mode := u } := by subst h; rfl
end
end Go.Sy
