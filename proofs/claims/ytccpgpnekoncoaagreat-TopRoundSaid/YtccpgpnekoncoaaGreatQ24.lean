/- Lemmas, in order: Regions whose order is open, with blocks that are laid in any order: what is known of them does not tell the order. Operations that lay a block: allocations, slices that are built, boxes. Regions whose order is open, with many operations that depend on one another in some order: values, calls that change nothing, blocks that are laid; then one last operation.. -/
import Derived.Test.YtccpgpnekoncoaaGreatQ23
namespace Go.Sy
open Go Go.Proofs Go.RowKit
inductive OS where
  | fin
  | p (k : Nat) (t : OS)
  | q (c k : Nat) (t : OS)
  | e1 (k : Nat) (t : OS)
  | s (A : List Nat) (t : OS)
  | s2 (A E : List Nat) (k : Nat) (t : OS)
def setL (listed : Array Bool) (D : List Nat) : Array Bool := D.foldl (fun l k => l.setIfInBounds k true) listed
theorem setL_perm {D D' : List Nat} (h : D.Perm D') (listed : Array Bool) : setL listed D = setL listed D' := by
  unfold setL
  refine h.foldl_eq' (fun x _ y _ z => ?_) _
  by_cases e : x = y
  · subst e; rfl
  · exact Array.setIfInBounds_comm _ _ e
theorem setL_snoc (listed : Array Bool) (D : List Nat) (i : Nat) : (setL listed D).setIfInBounds i true = setL listed (i :: D) := by
  have h := setL_perm (List.perm_append_comm (l₁ := [i]) (l₂ := D)) listed
  show _ = setL listed ([i] ++ D)
  rw [h]
  unfold setL
  rw [List.foldl_append]; rfl
theorem len_le {α : Type} : ∀ {D A : List α}, D.Nodup → (∀ j ∈ D, j ∈ A) → D.length ≤ A.length
  | [], _, _, _ => Nat.zero_le _
  | x :: D, A, hD, hs => by
    obtain ⟨h1, h2⟩ := List.nodup_cons.1 hD
    obtain ⟨l1, l2, rfl⟩ := List.append_of_mem (hs x (.head _))
    have := len_le (A := l1 ++ l2) h2 fun j hj => by
      have h3 := hs j (.tail _ hj)
      rcases List.mem_append.1 h3 with h4 | h4
      · exact List.mem_append_left _ h4
      · rcases List.mem_cons.1 h4 with rfl | h4
        · exact absurd hj h1
        · exact List.mem_append_right _ h4
    rw [List.length_append] at this ⊢
    rw [List.length_cons, List.length_cons]
    omega
theorem perm_of_len {α : Type} {A D : List α} (hA : A.Nodup) (hD : D.Nodup) (hs : ∀ j ∈ D, j ∈ A) (hl : A.length ≤ D.length) : D.Perm A := by
  refine (List.perm_ext_iff_of_nodup hD hA).2 fun x => ⟨hs x, fun hx => ?_⟩
  refine Classical.byContradiction fun hn => ?_
  have := len_le (D := x :: D) (A := A) (List.nodup_cons.2 ⟨hn, hD⟩) fun j hj => by
    rcases List.mem_cons.1 hj with rfl | hj
    · exact hx
    · exact hs j hj
  rw [List.length_cons] at this
  omega
section
variable {P : Program} {r : Option Nat} {ops : Array Oper} {md : Region.Mode} {Cs : Cls} {Q : Act → World → Prop}
end
/-- An operation that lays one block, whatever the world. -/
def Lays (P : Program) (L : List (Nat × Value)) (o : Oper) (v : Nat → Value) (obj : Obj) : Prop :=
  ∀ ρ, Agree L ρ → ∀ w : World, (execOp ρ o).run P w = .ok (.value (v w.heap.size)) { w with heap := w.heap.push obj }
structure Lay where
  k : Nat
  d : Nat
  v : Nat → Value
  obj : Obj
section
variable {P : Program} {r : Option Nat} {ops : Array Oper} {Cs : Cls} {Q : Act → World → Prop} {k n c : Nat} {t : OS} {ds : List Deferred} {L : List (Nat × Value)} {a : Act} {w w0 : World} {M : List Nat} {H : List (Nat × Obj)} {o : Oper} {d : Nat} {v : Value} {p : (World → Prop) × List Nat}
theorem Ext.push (w : World) (o : Obj) : Ext [] w { w with heap := w.heap.push o } := ((Hp.init w []).alloc o).ext
structure LayOk (P : Program) (ops : Array Oper) (n : Nat) (L : List (Nat × Value)) (S : List Lay) (s : Lay) : Prop where
  ok : ∃ o Lo, ops[s.k]? = some o ∧ o.dst = some s.d ∧ o.guard = none ∧ isDefer o.op = false ∧ Nat.blt s.d n = true ∧ Lays P Lo o s.v s.obj ∧ AllIn L Lo ∧ ∀ x ∈ S, ∀ q ∈ Lo, x.d ≠ q.1
end
end Go.Sy

namespace Go.Sy
open Go Go.Proofs Go.RowKit
theorem AtE.more {u w w' : World} {M : List Nat} {H : List (Nat × Obj)} (h : AtE u M H w) (e : Ext [] w w') : AtE u M H w' := ⟨h.1.trans (e.mono (by simp)), fun p hp => e.get (h.2 p hp)⟩
section
variable {P : Program} {L : List (Nat × Value)} {d : Nat} {v : Value} {ty : TypeId} {pos : String} {af : Array Edge} {gd : Option (Nat × Bool)}
theorem lay_buildSl {t : TypeId} {m sz : Nat} {parts : List (Nat × Operand)} {pv : List (Nat × Value)} {zs cs : List Value} {e : TypeId} (ht : sliceB P t m = some (e, sz, zs)) (hp : evp L parts = some pv)
    (hc : fillM (fun i => some (i * sz, sz)) zs pv = some cs) : Lays P L ⟨some d, .buildSlice t m parts.toArray, ty, pos, af, gd⟩ (fun b => .slice (some ⟨b, 0, none⟩) m m) (.cells cs.toArray e) := fun ρ hρ w => by
  have hp' := evp_map hρ _ _ hp
  have hrun : (Instr.buildSlice t m pv.toArray).run P w = .ok (.slice (some ⟨w.heap.size, 0, none⟩) m m) { w with heap := w.heap.push (.cells cs.toArray e) } := by
    unfold sliceB at ht
    split at ht
    · rename_i e' h1
      split at ht
      · rename_i i z h2 h3
        split at ht
        · simp at ht
        · rename_i hsmall
          simp only [Option.some.injEq, Prod.mk.injEq] at ht
          obtain ⟨rfl, rfl, rfl⟩ := ht
          have hf := fill_eq _ pv _ cs hc
          have hsz : (sizeOf e').run P w = .ok i.size w := by simp [sizeOf, typeInfo, h2]
          have s1 : ¬ m * i.size > 2 ^ 24 := by omega
          simp only [Instr.buildSlice, Sem.run_bind, run_underlying h1, Result.andThen_ok, hsz]
          rw [if_neg s1]
          by_cases s2 : m * i.size = 0
          · rw [if_pos s2]
            rw [s2] at hf ⊢
            simp only [Sem.run_bind, Result.andThen_ok, Sem.run_pure, Array.toArray_toList] at hf ⊢
            have e0 : ((Array.range 0).map fun x => z.cells[x % z.cells.size]!) = (Array.range 0).map fun x => (#[] : Array Value)[x % (#[] : Array Value).size]! := by simp
            rw [e0] at hf
            rw [hf]
            rfl
          · rw [if_neg s2]
            simp only [Sem.run_bind, run_zero h3, Result.andThen_ok, Sem.run_pure, Array.toArray_toList] at hf ⊢
            rw [hf]
            rfl
      · simp at ht
    · simp at ht
  simp only [execOp, List.map_toArray, hp', Sem.run_bind, hrun, Result.andThen_ok, Sem.run_pure]
end
end Go.Sy

namespace Go.Sy
open Go Go.Proofs Go.RowKit
theorem filterMapC {α β : Type} {f g : α → Option β} : ∀ {l : List α}, (∀ x ∈ l, f x = g x) → l.filterMap f = l.filterMap g
  | [], _ => rfl
  | x :: l, h => by rw [List.filterMap_cons, List.filterMap_cons, h x (.head _), filterMapC fun y hy => h y (.tail _ hy)]
structure DOp where
  d : Nat
  V : (Nat → Nat) → Value
  O : (Nat → Nat) → Option Obj
  E : List Nat
  F : List Nat
  Lz : List (Nat × Value)
def dLo (X : Nat → DOp) (i : Nat) (β : Nat → Nat) : List (Nat × Value) := ((X i).E.map fun j => ((X j).d, (X j).V β)) ++ (X i).Lz
def dHs (X : Nat → DOp) (β : Nat → Nat) (D : List Nat) : List (Nat × Obj) := D.filterMap fun j => ((X j).O β).map fun o => (β j, o)
def dFr (X : Nat → DOp) (β : Nat → Nat) (D : List Nat) : List (Nat × Value) := D.map fun j => ((X j).d, (X j).V β)
/-- How an operation of the kind runs. -/
def DRun (P : Program) (C : World → Prop) (X : Nat → DOp) (i : Nat) (o : Oper) : Prop :=
  ∀ (β : Nat → Nat) (ρ : Operand → Value) (w : World), Agree (dLo X i β) ρ → C w → β i = w.heap.size →
    (∃ obj, (X i).O β = some obj ∧ (execOp ρ o).run P w = .ok (.value ((X i).V β)) { w with heap := w.heap.push obj }) ∨
    ((X i).O β = none ∧ (execOp ρ o).run P w = .ok (.value ((X i).V β)) w) ∨
    ((X i).O β = none ∧ ∃ f args, (execOp ρ o).run P w = .ok (.enter f args) w ∧ Calls P f args w (Ret fun v w' => v = (X i).V β ∧ Ext [] w w'))
structure DOk (P : Program) (ops : Array Oper) (n : Nat) (C : World → Prop) (X : Nat → DOp) (L0 : List (Nat × Value)) (A i : Nat) : Prop where
  ok : ∃ o, ops[i]? = some o ∧ o.dst = some (X i).d ∧ o.guard = none ∧ isDefer o.op = false ∧ Nat.blt (X i).d n = true ∧ ((X i).E.all fun j => o.after.any fun e => Nat.beq e.on j && Region.binds .any e) = true ∧ DRun P C X i o
  f : ((X i).F.all fun x => Nat.beq x i || (X i).E.any fun j => (X j).F.contains x) = true
  loc : ∀ β β' : Nat → Nat, (∀ x ∈ (X i).F, β x = β' x) → (X i).V β = (X i).V β' ∧ (X i).O β = (X i).O β'
  lz : AllIn L0 (X i).Lz
  lx : ((List.range A).all fun j => (X i).Lz.all fun q => !Nat.beq (X j).d q.1) = true
section
variable {P : Program} {r : Option Nat} {ops : Array Oper} {n : Nat} {ds : List Deferred} {L L0 : List (Nat × Value)} {a : Act} {w w0 : World} {M : List Nat} {H0 : List (Nat × Obj)} {C : World → Prop} {X : Nat → DOp} {A i : Nat} {o : Oper}
theorem drun_lay {v : (Nat → Nat) → Nat → Value} {obj : (Nat → Nat) → Obj} (hV : (X i).V = fun β => v β (β i)) (hO : (X i).O = fun β => some (obj β)) (h : ∀ β, Lays P (dLo X i β) o (v β) (obj β)) : DRun P C X i o := fun β ρ w hρ _ hb =>
  .inl ⟨obj β, by rw [hO], by rw [hV]; dsimp only; rw [hb]; exact h β ρ hρ w⟩
theorem drun_val (hO : (X i).O = fun _ => none) (h : ∀ β, Yv P C (dLo X i β) o ((X i).V β)) : DRun P C X i o := fun β ρ w hρ hC _ => .inr (.inl ⟨by rw [hO], h β ρ hρ w hC⟩)
theorem drun_call {f : FuncId} {fop : Operand} {fs cs : Array Value} {vs : (Nat → Nat) → List Value} {av : (Nat → Nat) → Array Value} {args : List Operand} {ats : Array TypeId} {dd : Option Tmp} {ty : TypeId} {pos : String} {af : Array Edge} {gd : Option (Nat × Bool)}
    (hE : Enters P f) (hO : (X i).O = fun _ => none) (hfv : ∀ β, ev (dLo X i β) fop = some (.func (.func f) fs cs)) (ha : ∀ β, evs (dLo X i β) args = some (vs β)) (hav : ∀ β, fs ++ (vs β).toArray ++ cs = av β) (h : ∀ β w, C w → Calls P f (av β) w (Ret fun v w' => v = (X i).V β ∧ Ext [] w w')) : DRun P C X i ⟨dd, .call ⟨.value fop, args.toArray, ats⟩, ty, pos, af, gd⟩ := fun β ρ w hρ hC _ =>
  .inr (.inr ⟨by rw [hO], f, av β, by rw [← hav β]; exact run_call hρ hE (hfv β) (ha β), h β w hC⟩)
theorem dlk_skip {f : Nat → Nat × Value} {t : Nat} : ∀ {D : List Nat}, (∀ s ∈ D, (f s).1 ≠ t) → lk (D.map f ++ L) t = lk L t
  | [], _ => rfl
  | s :: D, h => by
    have h1 := h s (.head _)
    show lk ((f s) :: (D.map f ++ L)) t = _
    rcases hfs : f s with ⟨x, y⟩
    rw [hfs] at h1
    rw [lk, beq_ne h1, cond_false]
    exact dlk_skip fun s' hs => h s' (.tail _ hs)
theorem dlk_mem {f : Nat → Nat × Value} {s : Nat} : ∀ {D : List Nat}, s ∈ D → (D.map fun s => (f s).1).Nodup → lk (D.map f ++ L) (f s).1 = some (f s).2
  | [], h, _ => by cases h
  | x :: D, h, hn => by
    obtain ⟨h1, h2⟩ := List.nodup_cons.1 hn
    show lk ((f x) :: (D.map f ++ L)) _ = _
    rcases List.mem_cons.1 h with rfl | h
    · rcases hfs : f s with ⟨y, z⟩
      show lk ((y, z) :: _) y = _
      simp [lk]
    · have hne : (f x).1 ≠ (f s).1 := fun e => h1 (List.mem_map.2 ⟨s, h, e.symm⟩)
      rcases hfs : f x with ⟨y, z⟩
      rw [hfs] at hne
      rw [lk, beq_ne hne, cond_false]
      exact dlk_mem h h2
theorem dlk_perm {f : Nat → Nat × Value} {D D' : List Nat} (hp : D.Perm D') (hn : (D.map fun s => (f s).1).Nodup) (t : Nat) : lk (D.map f ++ L) t = lk (D'.map f ++ L) t := by
  have hn' : (D'.map fun s => (f s).1).Nodup := (hp.map _).nodup_iff.1 hn
  by_cases h : ∃ s ∈ D, (f s).1 = t
  · obtain ⟨s, hs, rfl⟩ := h
    rw [dlk_mem hs hn, dlk_mem (hp.mem_iff.1 hs) hn']
  · rw [dlk_skip fun s hs e => h ⟨s, hs, e⟩, dlk_skip fun s hs e => h ⟨s, hp.mem_iff.2 hs, e⟩]
theorem allIn_mem : ∀ {K : List (Nat × Value)}, (∀ q ∈ K, lk L q.1 = some q.2) → AllIn L K
  | [], _ => True.intro
  | (t, v) :: K, h => ⟨h (t, v) (.head _), allIn_mem fun q hq => h q (.tail _ hq)⟩
theorem AllIn.mem : ∀ {K : List (Nat × Value)}, AllIn L K → ∀ q ∈ K, lk L q.1 = some q.2
  | (t, v) :: K, h, q, hq => by
    rcases List.mem_cons.1 hq with rfl | hq
    · exact h.1
    · exact AllIn.mem h.2 q hq
structure DZ (w0 : World) (M : List Nat) (n : Nat) (ds : List Deferred) (X : Nat → DOp) (L0 : List (Nat × Value)) (H0 : List (Nat × Obj)) (D : List Nat) (β : Nat → Nat) (a : Act) (w : World) : Prop where
  c : ∀ j ∈ D, ∀ x ∈ (X j).F, x ∈ D
  f : Fr n ds (dFr X β D ++ L0) a
  h : Hp w0 M (dHs X β D ++ H0) w
theorem dz_step {D : List Nat} (hi : i ∉ D) (hk : DOk P ops n C X L0 A i) (hC : ∀ H w, Hp w0 M (H ++ H0) w → C w) (hdn : ((List.range A).map fun j => (X j).d).Nodup) (hiA : i < A) (hDA : ∀ j ∈ D, j < A) (hDn : D.Nodup)
    (hdep : ∀ o, ops[i]? = some o → ∀ e ∈ o.after, Region.binds .any e = true → e.on ∈ D) (hloc : ∀ j ∈ D, ∀ β β' : Nat → Nat, (∀ x ∈ (X j).F, β x = β' x) → (X j).V β = (X j).V β' ∧ (X j).O β = (X j).O β')
    {β : Nat → Nat} (hz : DZ w0 M n ds X L0 H0 D β a w) : EffC P r ops [] i (fun a w => ∃ β, DZ w0 M n ds X L0 H0 (i :: D) β a w) a w := by
  obtain ⟨o, ho, hd, hg, hdf, hn, hE, hrun⟩ := hk.ok
  have hED : ∀ j ∈ (X i).E, j ∈ D := fun j hj => by
    have h1 := List.all_eq_true.1 hE j hj
    obtain ⟨e, he, h2⟩ := Array.any_eq_true'.1 h1
    rw [Bool.and_eq_true] at h2
    rw [← Nat.eq_of_beq_eq_true h2.1]
    exact hdep o ho e he h2.2
  have hFD : ∀ x ∈ (X i).F, x = i ∨ x ∈ D := fun x hx => by
    have h1 := List.all_eq_true.1 hk.f x hx
    rw [Bool.or_eq_true] at h1
    rcases h1 with h1 | h1
    · exact .inl (Nat.eq_of_beq_eq_true h1)
    · obtain ⟨j, hj, h2⟩ := List.any_eq_true.1 h1
      exact .inr (hz.c j (hED j hj) x (by simpa using h2))
  obtain ⟨β', hβ'⟩ : ∃ β' : Nat → Nat, β' = fun j => if j = i then w.heap.size else β j := ⟨_, rfl⟩
  have hβi : β' i = w.heap.size := by rw [hβ']; exact if_pos rfl
  have hβD : ∀ j ∈ D, β' j = β j := fun j hj => by rw [hβ']; exact if_neg fun (e : j = i) => hi (e ▸ hj)
  have hsame : ∀ j ∈ D, (X j).V β' = (X j).V β ∧ (X j).O β' = (X j).O β := fun j hj => hloc j hj β' β fun x hx => hβD x (hz.c j hj x hx)
  have eF : dFr X β' D = dFr X β D := List.map_congr_left fun j hj => by rw [(hsame j hj).1]
  have eH : dHs X β' D = dHs X β D := by
    unfold dHs
    refine filterMapC fun j hj => ?_
    rw [(hsame j hj).2, hβD j hj]
  have hDd : (D.map fun j => (X j).d).Nodup := by
    have h1 : ∀ {D : List Nat}, D.Nodup → (∀ j ∈ D, j < A) → (D.map fun j => (X j).d).Nodup := by
      intro D hn h
      induction D with
      | nil => exact List.nodup_nil
      | cons x D ih =>
        obtain ⟨n1, n2⟩ := List.nodup_cons.1 hn
        rw [List.map_cons, List.nodup_cons]
        refine ⟨fun hx => ?_, ih n2 fun j hj => h j (.tail _ hj)⟩
        obtain ⟨y, hy, e⟩ := List.mem_map.1 hx
        have hxA := h x (.head _)
        have hyA := h y (.tail _ hy)
        have e1 : ((List.range A).map fun j => (X j).d)[x]? = some (X x).d := by rw [List.getElem?_map, List.getElem?_range hxA]; rfl
        have e2 : ((List.range A).map fun j => (X j).d)[y]? = some (X x).d := by rw [List.getElem?_map, List.getElem?_range hyA]; exact congrArg some e
        have := (List.getElem?_inj (by rw [List.length_map, List.length_range]; exact hxA) hdn).1 (e1.trans e2.symm)
        subst this
        exact n1 hy
    exact h1 hDn hDA
  have hag : Agree (dLo X i β') a.eval := (hz.f.sub (allIn_mem fun q hq => by
    rw [← eF]
    unfold dLo at hq
    rcases List.mem_append.1 hq with hq | hq
    · obtain ⟨j, hj, rfl⟩ := List.mem_map.1 hq
      exact dlk_mem (f := fun j => ((X j).d, (X j).V β')) (hED j hj) hDd
    · unfold dFr
      rw [dlk_skip (f := fun j => ((X j).d, (X j).V β')) fun s hs => ?_]
      · exact hk.lz.mem q hq
      · have h1 := List.all_eq_true.1 hk.lx s (List.mem_range.2 (hDA s hs))
        have h2 := List.all_eq_true.1 h1 q hq
        intro e
        dsimp only at e
        rw [e, Bool.not_eq_true'] at h2
        simp at h2)).agree
  have hc2 : ∀ j ∈ i :: D, ∀ x ∈ (X j).F, x ∈ i :: D := fun j hj x hx => by
    rcases List.mem_cons.1 hj with rfl | hj
    · rcases hFD x hx with rfl | h
      · exact .head _
      · exact .tail _ h
    · exact .tail _ (hz.c j hj x hx)
  refine mc_e ho fun Q' => ?_
  have hgw : Region.wanted o (yielded ops a.tmps) = true := GOn.wanted hz.f (.inl hg)
  have hput : Fr n ds (dFr X β' (i :: D) ++ L0) (a.put o.dst ((X i).V β')) := by
    show Fr n ds (((X i).d, (X i).V β') :: (dFr X β' D ++ L0)) _
    rw [eF, hd]
    exact hz.f.put (blt_lt hn) _
  rcases hrun β' a.eval w hag (hC _ w hz.h) hβi with ⟨obj, hO, hr⟩ | ⟨hO, hr⟩ | ⟨hO, f, args, hr, hcall⟩
  · refine opsW_value hgw hdf hr (ops_end (then_n ⟨trivial, β', hc2, hput, ?_⟩))
    have e : dHs X β' (i :: D) = (w.heap.size, obj) :: dHs X β D := by
      unfold dHs at eH ⊢
      rw [List.filterMap_cons, hO, Option.map_some, eH, hβi]
    rw [e]
    exact hz.h.alloc obj
  · refine opsW_value hgw hdf hr (ops_end (then_n ⟨trivial, β', hc2, hput, ?_⟩))
    have e : dHs X β' (i :: D) = dHs X β D := by
      unfold dHs at eH ⊢
      rw [List.filterMap_cons, hO, Option.map_none, eH]
    rw [e]
    exact hz.h
  · refine opsW_enter hgw hdf hr ((callsIn_wide (n := 0)).2 hcall) fun v w'' hR => ?_
    obtain ⟨rfl, hx⟩ := hR
    refine ops_end (then_n ⟨trivial, β', hc2, hput, ?_⟩)
    have e : dHs X β' (i :: D) = dHs X β D := by
      unfold dHs at eH ⊢
      rw [List.filterMap_cons, hO, Option.map_none, eH]
    rw [e]
    exact hz.h.more hx
/-- The shape of a region of this kind: the binding edges go back, and the last operation waits for all. -/
def dagB (ops : Array Oper) (A : Nat) : Bool :=
  noDefer ops && Region.noSelect ops && decide (ops.size = A + 1) && ((List.range (A + 1)).all fun i => match ops[i]? with
    | some o => o.after.all fun e => !Region.binds .any e || decide (e.on < i)
    | none => false) && (match ops[A]? with
    | some o => (List.range A).all fun j => o.after.any fun e => Nat.beq e.on j && Region.binds .any e
    | none => false)
end
theorem least_out {A : Nat} {D : List Nat} (h : ¬ ∀ j, j < A → j ∈ D) : ∃ i, i < A ∧ i ∉ D ∧ ∀ j, j < i → j ∈ D := by
  induction A with
  | zero => exact absurd (fun j hj => absurd hj (Nat.not_lt_zero _)) h
  | succ A ih =>
    by_cases h1 : ∀ j, j < A → j ∈ D
    · refine ⟨A, Nat.lt_succ_self _, fun hA => h fun j hj => ?_, h1⟩
      rcases Nat.lt_succ_iff_lt_or_eq.1 hj with h2 | rfl
      · exact h1 j h2
      · exact hA
    · obtain ⟨i, h2, h3⟩ := ih h1
      exact ⟨i, Nat.lt_succ_of_lt h2, h3⟩
theorem setL_get {listed : Array Bool} {D : List Nat} {i : Nat} (hi : i < listed.size) : (setL listed D).getD i true = (listed.getD i true || D.contains i) ∧ (setL listed D).getD i false = (listed.getD i false || D.contains i) := by
  unfold setL
  induction D generalizing listed with
  | nil => simp
  | cons x D ih =>
    rw [List.foldl_cons]
    obtain ⟨h1, h2⟩ := ih (listed := listed.setIfInBounds x true) (by simpa using hi)
    rw [h1, h2]
    by_cases e : x = i
    · subst e
      simp [hi]
    · have e2 : ¬ i = x := fun h => e h.symm
      have e3 : (i == x) = false := by simp [e2]
      rw [List.contains_cons, e3]
      simp [hi, e]
theorem sy_dag {P : Program} {r : Option Nat} {id n A : Nat} {Q : Exit → Act → World → Prop} {a : Act} {w w0 : World} {M : List Nat} {H0 : List (Nat × Obj)} {l : List Oper} {ds : List Deferred} {L0 : List (Nat × Value)} {C : World → Prop} (X : Nat → DOp) (hm : P.follows .mixedOrders = true)
    (hB : dagB l.toArray A = true) (hf : Fr n ds L0 a) (hh : Hp w0 M H0 w) (hC : ∀ H w, Hp w0 M (H ++ H0) w → C w) (hX : ∀ i, i < A → DOk P l.toArray n C X L0 A i) (hdn : ((List.range A).map fun j => (X j).d).Nodup)
    (K : ∀ (β : Nat → Nat) (a : Act) (w : World), Fr n ds (dFr X β (List.range A) ++ L0) a → Hp w0 M (dHs X β (List.range A) ++ H0) w → EffC P r l.toArray [] A (fun a w => Q .normal a w) a w) : WP P r (.region id l.toArray true) Q a w := by
  unfold dagB at hB
  simp only [Bool.and_eq_true, decide_eq_true_eq] at hB
  obtain ⟨⟨⟨⟨h1, h2⟩, hsz⟩, hback⟩, hlast⟩ := hB
  have back : ∀ i o, l.toArray[i]? = some o → ∀ e ∈ o.after, Region.binds .any e = true → e.on < i := fun i o ho e he hb => by
    have hi := (Array.getElem?_eq_some_iff.1 ho).1
    have h3 := List.all_eq_true.1 hback i (List.mem_range.2 (by omega))
    rw [ho] at h3
    have h4 := Array.all_eq_true'.1 h3 e he
    rw [hb] at h4
    simpa using h4
  obtain ⟨lst, hls⟩ : ∃ z : Array Bool, z = Array.replicate l.toArray.size false := ⟨_, rfl⟩
  have hlz : lst.size = A + 1 := by rw [hls, Array.size_replicate, hsz]
  have hl0 : ∀ i, i < A + 1 → lst.getD i true = false ∧ lst.getD i false = false := fun i hi => by
    rw [hls]
    simp [hsz, hi]
  have gt : ∀ D i, i < A + 1 → ((setL lst D).getD i true = D.contains i ∧ (setL lst D).getD i false = D.contains i) := fun D i hi => by
    obtain ⟨g1, g2⟩ := setL_get (listed := lst) (D := D) (i := i) (by omega)
    obtain ⟨g3, g4⟩ := hl0 i hi
    rw [g1, g2, g3, g4, Bool.false_or]
    exact ⟨rfl, rfl⟩
  have key : ∀ (m : Nat) (D : List Nat) (a : Act) (w : World), D.Nodup → (∀ j ∈ D, j < A) → D.length + m = A → (∃ β, DZ w0 M n ds X L0 H0 D β a w) → LC P r .any l.toArray [] (fun a w => Q .normal a w) (m + 1) (setL lst D) a w := by
    intro m
    induction m with
    | zero =>
      rintro D a w hD hs2 hl ⟨β, hz⟩
      have hp : D.Perm (List.range A) := perm_of_len List.nodup_range hD (fun j hj => List.mem_range.2 (hs2 j hj)) (by rw [List.length_range]; omega)
      have all : ∀ j, j < A → j ∈ D := fun j hj => hp.mem_iff.2 (List.mem_range.2 hj)
      have hA : l.toArray[A]? = some (l.toArray[A]'(by omega)) := Array.getElem?_eq_getElem (by omega)
      have hAD : A ∉ D := fun h => by have := hs2 A h; omega
      have hr1 : A ∈ Region.ready .any l.toArray (setL lst D) := mem_ready.2 ⟨by rw [(gt D A (by omega)).1]; simpa using hAD, _, hA, fun e he hb => by
        have := back A _ hA e he hb
        rw [(gt D e.on (by omega)).2]
        simpa using all e.on this⟩
      refine ⟨fun h0 => (by rw [h0] at hr1; cases hr1), fun i hi => ?_⟩
      have hie : i = A := by
        obtain ⟨u1, o, u2, _⟩ := mem_ready.1 hi
        have := (Array.getElem?_eq_some_iff.1 u2).1
        rcases Nat.lt_or_ge i A with h | h
        · rw [(gt D i (by omega)).1] at u1
          have := all i h
          simp [this] at u1
        · omega
      subst hie
      refine wpOpIn_mono (fun a' w' h' => ⟨h'.1, ?_, h'.2⟩) (K β a w ⟨hz.f.size, hz.f.defers, fun t v ht => hz.f.get t v ?_⟩ (hz.h.perm ((hp.filterMap _).append_right _)))
      · refine List.eq_nil_iff_forall_not_mem.2 fun x hx => ?_
        obtain ⟨u1, o, u2, _⟩ := mem_ready.1 hx
        have hxz := (Array.getElem?_eq_some_iff.1 u2).1
        rw [setL_snoc, (gt (i :: D) x (by omega)).1] at u1
        have hx2 : x ∈ i :: D := by
          rcases Nat.lt_or_ge x i with h | h
          · exact .tail _ (all x h)
          · have : x = i := by omega
            subst this; exact .head _
        simp only [List.contains_iff_mem, hx2, Bool.eq_false_iff, ne_eq] at u1
        exact u1 (by simp [hx2])
      · unfold dFr at ht ⊢
        rw [dlk_perm (f := fun j => ((X j).d, (X j).V β)) hp ((hp.map _).nodup_iff.2 hdn)]
        exact ht
    | succ m ih =>
      rintro D a w hD hs2 hl ⟨β, hz⟩
      have hno : ¬ ∀ j, j < A → j ∈ D := fun h => by
        have := len_le (List.nodup_range (n := A)) (A := D) fun j hj => h j (List.mem_range.1 hj)
        rw [List.length_range] at this
        omega
      obtain ⟨k, hkA, hkD, hkl⟩ := least_out hno
      have hrk : k ∈ Region.ready .any l.toArray (setL lst D) := mem_ready.2 ⟨by rw [(gt D k (by omega)).1]; simpa using hkD, _, Array.getElem?_eq_getElem (by omega), fun e he hb => by
        have := back k _ (Array.getElem?_eq_getElem (by omega)) e he hb
        rw [(gt D e.on (by omega)).2]
        simpa using hkl e.on this⟩
      refine ⟨fun h0 => (by rw [h0] at hrk; cases hrk), fun i hi => ?_⟩
      obtain ⟨u1, o, u2, u3⟩ := mem_ready.1 hi
      have hiz := (Array.getElem?_eq_some_iff.1 u2).1
      have hiD : i ∉ D := fun h => by
        rw [(gt D i (by omega)).1] at u1
        simp [h] at u1
      have dep : ∀ o, l.toArray[i]? = some o → ∀ e ∈ o.after, Region.binds .any e = true → e.on ∈ D := fun o' ho' e he hb => by
        rw [u2] at ho'
        cases ho'
        have h3 := u3 e he hb
        have := back i o u2 e he hb
        rw [(gt D e.on (by omega)).2] at h3
        simpa using h3
      have hiA : i < A := by
        refine Nat.lt_of_le_of_ne (by omega) fun e => hno fun j hj => ?_
        subst e
        rw [u2] at hlast
        have h3 := List.all_eq_true.1 hlast j (List.mem_range.2 hj)
        obtain ⟨e, he, h4⟩ := Array.any_eq_true'.1 h3
        rw [Bool.and_eq_true] at h4
        rw [← Nat.eq_of_beq_eq_true h4.1]
        exact dep o u2 e he h4.2
      refine wpOpIn_mono (fun a' w' h' => ⟨h'.1, ?_⟩) (dz_step hiD (hX i hiA) hC hdn hiA hs2 hD dep (fun j hj => (hX j (hs2 j hj)).loc) hz)
      rw [setL_snoc]
      exact ih (i :: D) a' w' (List.nodup_cons.2 ⟨hiD, hD⟩) (fun j hj => by
        rcases List.mem_cons.1 hj with rfl | hj
        · exact hiA
        · exact hs2 j hj) (by rw [List.length_cons]; omega) h'.2
  have hz0 : DZ w0 M n ds X L0 H0 [] (fun _ => 0) a { w with drawn := w.drawn + 1 } := ⟨fun j hj => (by cases hj), hf, hh.drawn (w.drawn + 1)⟩
  refine wpIn_region_any hm (wpAny_of_LC (Cs := []) (Q := fun a w => Q .normal a w) (fun _ _ h => h) _ _ _ _ ?_)
  have := key A [] a _ List.nodup_nil (fun j hj => by cases hj) (by simp) ⟨_, hz0⟩
  rw [hls] at this
  rw [hsz]
  rw [hsz] at this
  exact this
end Go.Sy

