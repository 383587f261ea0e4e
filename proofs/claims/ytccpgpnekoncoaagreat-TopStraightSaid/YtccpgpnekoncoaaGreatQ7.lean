/- Lemmas, in order: What the kit's sort leaves, in the engine's words. Iterators whose things lie in memory; a slice that is compared with nil.. -/
import Derived.Test.YtccpgpnekoncoaaGreatQ6
import Derived.Shelf.SlSortCmp.Whole1
namespace Go.Sy
open Go Go.Proofs Go.Sort
/-- A world that only laid blocks and drew. -/
theorem grown_of {w w' : World} (h : Ext [] w w') : ∃ q os, w' = Sort.grow (w.drewN q) os := by
  refine ⟨w'.drawn - w.drawn, w'.heap.extract w.heap.size w'.heap.size, ?_⟩
  have h1 := h.os; have h2 := h.tape; have h3 := h.output; have h4 := h.size; have h5 := h.dr
  have hp : w'.heap = w.heap ++ w'.heap.extract w.heap.size w'.heap.size := by
    apply Array.ext_getElem?
    intro k
    rw [Array.getElem?_append]
    by_cases hk : k < w.heap.size
    · rw [if_pos hk]; exact h.block k hk (by simp)
    · rw [if_neg hk, Array.getElem?_extract]
      by_cases hk2 : k < w'.heap.size
      · rw [if_pos (by omega)]; congr 1; omega
      · rw [if_neg (by omega), Array.getElem?_eq_none (by omega)]
  obtain ⟨hp0, tp, dr, o, out⟩ := w
  obtain ⟨hp1, tp1, dr1, o1, out1⟩ := w'
  simp only at h1 h2 h3 h5 hp
  subst h1; subst h2; subst h3
  show World.mk _ _ _ _ _ = World.mk _ _ _ _ _
  congr 1
  show dr1 = dr + (dr1 - dr)
  omega
section
variable {α : Type} [Inhabited α] {enc : α → Value}
theorem frozen_no {w : World} {B off : Nat} {c : Array Value} {e : TypeId} (h : w.heap[B]? = some (.cells c e (0, 0))) : w.frozen? ⟨B, off, none⟩ = false := by
  unfold World.frozen?
  rw [h]
  simp
/-- A row of one's own, as the kit's sort wants it. -/
theorem own_holds {w : World} {e : TypeId} {B m : Nat} {cur : Array Value} {d : Array α} (hb : w.heap[B]? = some (.cells cur e (0, 0))) (hm : d.size = m) (hx : cur.toList.take (m * 1) = d.toList.map enc) : Holds enc w B 0 d := fun j hj => by
  have h1 : (cur.toList.take (m * 1))[j]? = some (enc d[j]!) := by
    rw [hx, List.getElem?_map, Array.getElem?_toList, Array.getElem?_eq_getElem hj, getElem!_pos d j hj]; rfl
  rw [List.getElem?_take] at h1
  split at h1
  · rw [Array.getElem?_toList] at h1
    exact ⟨by simp [World.cell?, hb, h1], frozen_no hb⟩
  · cases h1
theorem put_size (off : Nat) (d : Array α) (c : Array Value) : (putCells enc off d c).size = c.size := by simp [putCells]
theorem put_take {d : Array α} {c : Array Value} (h : d.size ≤ c.size) : (putCells enc 0 d c).toList.take d.size = d.toList.map enc := by
  apply List.ext_getElem?
  intro j
  rw [List.getElem?_take]
  by_cases hj : j < d.size
  · rw [if_pos hj, Array.getElem?_toList, List.getElem?_map, Array.getElem?_toList, Array.getElem?_eq_getElem hj]
    unfold putCells
    rw [Array.getElem?_mapIdx, Array.getElem?_eq_getElem (by omega)]
    simp [hj, getElem!_pos d j hj]
  · rw [if_neg hj, List.getElem?_eq_none (by simp; omega)]
theorem sorted_hp {w w' : World} {e : TypeId} {B n : Nat} {os : Array Obj} {cur : Array Value} {d' : Array α} (hb : w.heap[B]? = some (.cells cur e (0, 0))) (hw : w' = sortWorld enc w B 0 n d' os) :
    Hp w [B] [(B, .cells (putCells enc 0 d' cur) e (0, 0))] w' := by
  have hB := (Array.getElem?_eq_some_iff.1 hb).1
  subst hw
  have hsz : (putRow enc (Sort.ahead w n) B 0 d').heap.size = w.heap.size := by simp [putRow, mapBlock, Sort.ahead]
  have hget : ∀ k, k < w.heap.size → (sortWorld enc w B 0 n d' os).heap[k]? = (w.heap.modify B (onCells (putCells enc 0 d')))[k]? := fun k hk => by
    show ((w.heap.modify B (onCells (putCells enc 0 d'))) ++ os)[k]? = _
    rw [Array.getElem?_append, if_pos (by simpa using hk)]
  refine ⟨⟨rfl, rfl, rfl, ?_, ?_, fun k hk hm => ?_⟩, fun p hp => ?_, by simp, fun p hp => ?_⟩
  · show w.heap.size ≤ ((w.heap.modify B (onCells (putCells enc 0 d'))) ++ os).size
    simp
  · show w.drawn ≤ w.drawn + n
    omega
  · rw [hget k hk, Array.getElem?_modify, if_neg (fun e => hm (by rw [e]; exact .head _))]
  · rw [List.mem_singleton.1 hp]
    show (sortWorld enc w B 0 n d' os).heap[B]? = _
    rw [hget B hB, Array.getElem?_modify, if_pos rfl, hb]; rfl
  · rw [List.mem_singleton.1 hp]; exact .inr (.head _)
end
end Go.Sy

namespace Go.Sy
open Go Go.Proofs Go.RowKit
section
variable {P : Program} {C : World → Prop} {L : List (Nat × Value)} {dd : Option Tmp} {ty : TypeId} {pos : String} {af : Array Edge} {gd : Option (Nat × Bool)}
theorem run_slNil (d : Nat) {t e : TypeId} (hu : P.underlying t = some (.slice e)) (sa : Option Addr) (n c : Nat) (w : World) : (Op.equalIn (d + 1) t (.slice sa n c) (.slice none 0 0)).run P w = .ok sa.isNone w := by
  cases sa with
  | none => simp [Op.equalIn, run_underlying hu]
  | some a => simp [Op.equalIn, run_underlying hu]
theorem yv_slNil {t t' : TypeId} {x y : Operand} {sa : Option Addr} {n c : Nat} {e : TypeId × Nat} (ht : sliceElem P t = some e) (hx : ev L x = some (.slice sa n c)) (hy : y = .const (.slice none 0 0)) :
    Yv P C L ⟨dd, .binOp .eql t x y t', ty, pos, af, gd⟩ (.bool sa.isNone) := fun ρ hρ w _ => by
  subst hy
  have h0 : ρ (.const (.slice none 0 0)) = .slice none 0 0 := hρ _ _ rfl
  unfold sliceElem at ht
  split at ht
  · rename_i e' hu
    have e2 : (binOp .eql t (.slice sa n c) (.slice none 0 0)).run P w = .ok (.bool sa.isNone) w := by
      show (do pure (.bool (← Op.equal t (.slice sa n c) (.slice none 0 0))) : Sem Value).run P w = _
      rw [Sem.run_bind, show (Op.equal t (.slice sa n c) (.slice none 0 0)).run P w = .ok sa.isNone w from run_slNil 9999 hu sa n c w]; rfl
    have g : (eqGuard .eql t x (.const (.slice none 0 0)) (.slice sa n c) (.slice none 0 0)).run P w = .ok () w := by simp [eqGuard]
    simp only [execOp, hρ _ _ hx, h0, Sem.run_bind, g, Result.andThen_ok, e2, Sem.run_pure]
  · cases ht
end
/-- An iterator whose things lie in memory (At tells how, off the blocks that the rounds turn); it may turn the blocks of Mi, and whose own facts are Own: it hands these things to yield, one after the other, till a round says no. The rounds turn blocks of N alone. -/
def IterR (P : Program) (f : FuncId) (fs cs : Array Value) {β : Type} (xs : List β) (At : β → Array Value → List Nat → World → Prop) (Mi : List Nat) (Own : List Nat → World → Prop) : Prop :=
  ∀ (l : Nat) (J K : Nat → List Nat → World → Prop) (w : World) (N : List Nat),
    (∀ k N v, J k N v → ∀ x ∈ N, x < v.heap.size) → (∀ k N v, K k N v → ∀ x ∈ N, x < v.heap.size) →
    (∀ k N v v' O, J k N v → Ext O v v' → (∀ x ∈ O, x ∉ N ∧ (x ∈ Mi ∨ w.heap.size ≤ x)) → J k N v') →
    (∀ k N v v' O, K k N v → Ext O v v' → (∀ x ∈ O, x ∉ N ∧ (x ∈ Mi ∨ w.heap.size ≤ x)) → K k N v') →
    (∀ k N v args b, xs[k]? = some b → At b args N v → J k N v → Yld P l args v (fun b v' => ∃ N', Grows N N' v ∧ Ext N v v' ∧ ((b = .bool true ∧ J (k + 1) N' v') ∨ (b = .bool false ∧ K k N' v')))) →
    J 0 N w → Own N w → Calls P f (fs ++ #[.func (.yield l) #[] #[]] ++ cs) w (Ret fun _ w' => ∃ N', Own N' w' ∧ (J xs.length N' w' ∨ ∃ k, K k N' w'))
section
variable {P : Program} {Q : Exit → Act → World → Prop} {a : Act} {w : World} {n : Nat} {ds : List Deferred} {L : List (Nat × Value)}
theorem sy_rangeR {g : Operand} {ps : List Tmp} {asg body : Code} {f : FuncId} {fs cs : Array Value} {β : Type} {xs : List β} {At : β → Array Value → List Nat → World → Prop} {Mi : List Nat} {Own : List Nat → World → Prop}
    (St : Nat → List Nat → World → Prop) (X : Nat → Code → List Nat → World → Prop) (N0 : List Nat)
    (hf : Fr n ds L a) (hE : Enters P f) (hg : ev L g = some (.func (.func f) fs cs)) (it : IterR P f fs cs xs At Mi Own)
    (hps : (ps.all fun t => Nat.blt t n) = true) (hsz : ∀ b x N w, At b x N w → x.size = ps.length)
    (hS0 : St 0 N0 w) (hO0 : ∀ N' w', Ext [] w w' → Grows N0 N' w → Own N' w')
    (hlt : ∀ k N v, St k N v → ∀ x ∈ N, x < v.heap.size) (hltX : ∀ k c N v, X k c N v → ∀ x ∈ N, x < v.heap.size)
    (hst : ∀ k N v v' O, St k N v → Ext O v v' → (∀ x ∈ O, x ∉ N ∧ (x ∈ Mi ∨ w.heap.size ≤ x)) → St k N v')
    (hstX : ∀ k c N v v' O, X k c N v → Ext O v v' → (∀ x ∈ O, x ∉ N ∧ (x ∈ Mi ∨ w.heap.size ≤ x)) → X k c N v')
    (hround : ∀ k b x fn D l N v a' tm, xs[k]? = some b → At b x (l :: D :: N) v → St k N v → Hp v (l :: D :: N) [(l, .loop (rec0 fn tm ps.toArray asg body D .ready none)), (D, .deferred (some []))] v → l ∉ N → D ∉ N → w.heap.size ≤ l → w.heap.size ≤ D → Fr n [] (zipL ps.reverse x.toList.reverse ++ L) a' →
      WP P (some l) asg (Exit.then (Begun P l body (RoundG v l (rec0 fn tm ps.toArray asg body D .busy none) D N (St (k + 1)) (X k))) (fun _ _ _ => False)) a' v)
    (hdone : ∀ D N N' a v, St xs.length N v → Own N' v → D ∉ N → v.heap[D]? = some (.deferred (some [])) → w.heap.size ≤ D → Fr n ({ target := .collected D, args := #[] } :: ds) L a → Q .normal a v)
    (hstop : ∀ k c D N N' a v, X k c N v → Own N' v → D ∉ N → v.heap[D]? = some (.deferred (some [])) → w.heap.size ≤ D → Fr n ({ target := .collected D, args := #[] } :: ds) L a → WP P none c Q a v)
    (hOS : ∀ N v v' b, Own N v → b ∈ N → Ext [b] v v' → Own N v') :
    WP P none (.rangeFunc g ps.toArray asg body) Q a w := by
  refine wpIn_rangeFunc fun fn _ => ?_
  have hres : ∀ l, (resolve a.eval (rangeCall g l) 0).run P ((w.alloc (.deferred (some []))).alloc (.loop (rec0 fn a.tmps ps.toArray asg body w.heap.size .ready none))) = .ok { target := .fn (.func f) cs, args := fs ++ #[.func (.yield l) #[] #[]] } ((w.alloc (.deferred (some []))).alloc (.loop (rec0 fn a.tmps ps.toArray asg body w.heap.size .ready none))) := by
    intro l
    have h0 := hf.agree _ _ hg
    simp only [resolve, h0, Deferred.ofValue, Sem.run_pure, List.map_toArray, List.map_cons, List.map_nil]
    rfl
  refine ⟨_, _, _, _, _, f, fs ++ #[.func (.yield (w.heap.size + 1)) #[] #[]] ++ cs, _, run_enterLoop_outer fn a.tmps ps.toArray asg body, hres _, fun _ _ => trivial, by simp only [invoke]; exact hE _ _, depth_triv none 0, ?_⟩
  have h2 : Hp w [] [(w.heap.size + 1, .loop (rec0 fn a.tmps ps.toArray asg body w.heap.size .ready none)), (w.heap.size, .deferred (some []))] ((w.alloc (.deferred (some []))).alloc (.loop (rec0 fn a.tmps ps.toArray asg body w.heap.size .ready none))) := by
    have e1 := (Hp.init w []).alloc (.deferred (some []))
    have e2 := e1.alloc (.loop (rec0 fn a.tmps ps.toArray asg body w.heap.size .ready none))
    have e3 : ({ w with heap := w.heap.push (.deferred (some [])) } : World).heap.size = w.heap.size + 1 := by simp
    rw [e3] at e2
    exact e2
  have hDl : w.heap.size ≠ w.heap.size + 1 := by omega
  have hwl : w.heap.size ≤ w.heap.size + 1 := by omega
  have hwD : w.heap.size ≤ w.heap.size := Nat.le_refl _
  have hn0 := hlt 0 N0 w hS0
  have hlN : w.heap.size + 1 ∉ N0 := fun h => by have := hn0 _ h; omega
  have hDN : w.heap.size ∉ N0 := fun h => by have := hn0 _ h; omega
  generalize hl : w.heap.size + 1 = l at h2 hDl hwl hlN ⊢
  generalize hD : (w.heap.size : Nat) = D at h2 hDl hwD hDN ⊢
  generalize (w.alloc (.deferred (some []))).alloc (.loop (rec0 fn a.tmps ps.toArray asg body D .ready none)) = w1 at h2 ⊢
  replace hwD : w.heap.size ≤ D := Nat.le_of_eq hD
  let J : Nat → List Nat → World → Prop := fun k N' v => ∃ N, N' = l :: D :: N ∧ St k N v ∧ v.heap[l]? = some (.loop (rec0 fn a.tmps ps.toArray asg body D .ready none)) ∧ v.heap[D]? = some (.deferred (some [])) ∧ l ∉ N ∧ D ∉ N
  let K : Nat → List Nat → World → Prop := fun k N' v => ∃ N c, N' = l :: D :: N ∧ X k c N v ∧ v.heap[l]? = some (.loop (rec0 fn a.tmps ps.toArray asg body D .done (some c))) ∧ v.heap[D]? = some (.deferred (some [])) ∧ l ∉ N ∧ D ∉ N
  have lt2 : ∀ {v : World} {N : List Nat} {o o' : Obj}, v.heap[l]? = some o → v.heap[D]? = some o' → (∀ x ∈ N, x < v.heap.size) → ∀ x ∈ l :: D :: N, x < v.heap.size := fun h1 h3 hN x hx => by
    rcases List.mem_cons.1 hx with rfl | hx
    · exact (Array.getElem?_eq_some_iff.1 h1).1
    · rcases List.mem_cons.1 hx with rfl | hx
      · exact (Array.getElem?_eq_some_iff.1 h3).1
      · exact hN x hx
  have keep : ∀ {v v' : World} {O : List Nat} {b : Nat} {o : Obj}, v.heap[b]? = some o → Ext O v v' → b ∉ O → v'.heap[b]? = some o := fun h e hb => e.getM h hb
  have hy : ∀ k N' v args b, xs[k]? = some b → At b args N' v → J k N' v → Yld P l args v (fun b v' => ∃ N'', Grows N' N'' v ∧ Ext N' v v' ∧ ((b = .bool true ∧ J (k + 1) N'' v') ∨ (b = .bool false ∧ K k N'' v'))) := by
    rintro k N' v args bb hx hat ⟨N, rfl, hS, hvl, hvD, hl1, hD1⟩
    have hlen : args.size = ps.length := hsz bb args _ _ hat
    refine ⟨_, hvl, by simpa using hlen, ?_⟩
    have hfr : Fr n [] (zipL ps.reverse args.toList.reverse ++ L) { tmps := (ps.zip args.toList).foldl (fun tmps p => tmps.setIfInBounds p.1 p.2) a.tmps, defers := [] } :=
      Fr.zip ps args.toList L { a with defers := [] } ⟨hf.size, rfl, hf.get⟩ hps (by simpa using hlen.symm)
    have hfold : (ps.toArray.zip args).foldl (fun tmps (t, a) => tmps.setIfInBounds t a) a.tmps = (ps.zip args.toList).foldl (fun tmps p => tmps.setIfInBounds p.1 p.2) a.tmps := by
      rw [← Array.foldl_toList, Array.toList_zip]
    refine roundIn_of_wpIn trivial ?_
    have hh : Hp v (l :: D :: N) [(l, .loop (rec0 fn a.tmps ps.toArray asg body D .ready none)), (D, .deferred (some []))] v :=
      ⟨.refl _ _, fun p hp => by
        rcases List.mem_cons.1 hp with rfl | hp
        · exact hvl
        · rw [List.mem_singleton] at hp; subst hp; exact hvD, by simp; exact fun e => hDl e.symm, fun p hp => by
        rcases List.mem_cons.1 hp with rfl | hp
        · exact .inr (.head _)
        · rw [List.mem_singleton] at hp; subst hp; exact .inr (.tail _ (.head _))⟩
    have hr := hround k bb args fn D l N v _ a.tmps hx hat hS hh hl1 hD1 hwl hwD hfr
    rw [show (rec0 fn a.tmps ps.toArray asg body D .ready none).params = ps.toArray from rfl, show (rec0 fn a.tmps ps.toArray asg body D .ready none).tmps = a.tmps from rfl, hfold]
    have gr : ∀ {N'' : List Nat}, Grows N N'' v → Grows (l :: D :: N) (l :: D :: N'') v := fun hg x hx => by
      rcases List.mem_cons.1 hx with rfl | hx
      · exact .inl (.head _)
      · rcases List.mem_cons.1 hx with rfl | hx
        · exact .inl (.tail _ (.head _))
        · rcases hg x hx with h1 | h1
          · exact .inl (.tail _ (.tail _ h1))
          · exact .inr h1
    refine wpIn_mono hr fun e a1 v1 he => ?_
    cases e with
    | normal =>
      obtain ⟨v2, hb, hbody⟩ := he
      refine ⟨v2, hb, wpIn_mono hbody fun e a2 v3 h3 => ?_⟩
      have hsame : ∀ {o : Obj} {w3 : World} {b : Nat}, b ≠ l → (w3.putObj l o).heap[b]? = w3.heap[b]? := fun hne => World.putObj_heap_other (fun e => hne e)
      cases e with
      | normal =>
        obtain ⟨N'', hI', hgr, hex, q1, q2, q3, q4⟩ := h3
        have hsz3 := hlt _ _ _ hI'
        refine ⟨_, _, run_endRound none q1, l :: D :: N'', gr hgr, hex.put (.head _) _, .inl ⟨rfl, N'', rfl, hst _ _ _ _ [l] hI' (putObj_ext _ _ _) (fun x hx => by rw [List.mem_singleton] at hx; subst hx; exact ⟨q3, .inr hwl⟩), World.putObj_heap_same (Array.getElem?_eq_some_iff.1 q1).1, ?_, q3, q4⟩⟩
        rw [hsame hDl]; exact q2
      | ret =>
        obtain ⟨N'', hI', hgr, hex, q1, q2, q3, q4⟩ := h3
        refine ⟨_, _, run_endRound (some .ret) q1, l :: D :: N'', gr hgr, hex.put (.head _) _, .inr ⟨rfl, N'', .ret, rfl, hstX _ _ _ _ _ [l] hI' (putObj_ext _ _ _) (fun x hx => by rw [List.mem_singleton] at hx; subst hx; exact ⟨q3, .inr hwl⟩), World.putObj_heap_same (Array.getElem?_eq_some_iff.1 q1).1, ?_, q3, q4⟩⟩
        rw [hsame hDl]; exact q2
      | exit id =>
        obtain ⟨N'', hI', hgr, hex, q1, q2, q3, q4⟩ := h3
        refine ⟨_, _, run_endRound (some (.exit id)) q1, l :: D :: N'', gr hgr, hex.put (.head _) _, .inr ⟨rfl, N'', .exit id, rfl, hstX _ _ _ _ _ [l] hI' (putObj_ext _ _ _) (fun x hx => by rw [List.mem_singleton] at hx; subst hx; exact ⟨q3, .inr hwl⟩), World.putObj_heap_same (Array.getElem?_eq_some_iff.1 q1).1, ?_, q3, q4⟩⟩
        rw [hsame hDl]; exact q2
      | goto t => exact h3.elim
      | panic c => exact h3.elim
      | outgrown => exact h3.elim
    | exit id => exact he.elim
    | goto t => exact he.elim
    | ret => exact he.elim
    | panic c => exact he.elim
    | outgrown => exact he.elim
  have st1 : St 0 N0 w1 := hst _ _ _ _ [] hS0 h2.ext (by simp)
  have hcall := it l J K w1 (l :: D :: N0)
    (fun k N' v ⟨N, e, h1, h3, h4, _⟩ => by subst e; exact lt2 h3 h4 (hlt _ _ _ h1))
    (fun k N' v ⟨N, c, e, h1, h3, h4, _⟩ => by subst e; exact lt2 h3 h4 (hltX _ _ _ _ h1))
    (fun k N' v v' O ⟨N, e, h1, h3, h4, h5, h6⟩ ex hO => by
      subst e
      have hs := h2.ext.size
      have off : ∀ b, b ∈ l :: D :: N → b ∉ O := fun b hb hx => (hO b hx).1 hb
      exact ⟨N, rfl, hst _ _ _ _ O h1 ex (fun x hx => ⟨fun hn => (hO x hx).1 (.tail _ (.tail _ hn)), (hO x hx).2.imp id fun h => Nat.le_trans hs h⟩), ex.getM h3 (off l (.head _)), ex.getM h4 (off D (.tail _ (.head _))), h5, h6⟩)
    (fun k N' v v' O ⟨N, c, e, h1, h3, h4, h5, h6⟩ ex hO => by
      subst e
      have hs := h2.ext.size
      have off : ∀ b, b ∈ l :: D :: N → b ∉ O := fun b hb hx => (hO b hx).1 hb
      exact ⟨N, c, rfl, hstX _ _ _ _ _ O h1 ex (fun x hx => ⟨fun hn => (hO x hx).1 (.tail _ (.tail _ hn)), (hO x hx).2.imp id fun h => Nat.le_trans hs h⟩), ex.getM h3 (off l (.head _)), ex.getM h4 (off D (.tail _ (.head _))), h5, h6⟩)
    hy ⟨N0, rfl, st1, h2.at (i := 0) rfl, h2.at (i := 1) rfl, hlN, hDN⟩
    (hO0 _ _ h2.ext fun x hx => by
      rcases List.mem_cons.1 hx with rfl | hx
      · exact .inr hwl
      · rcases List.mem_cons.1 hx with rfl | hx
        · exact .inr hwD
        · exact .inl hx)
  refine ((callsIn_wide (n := 0)).2 hcall : CallsIn (FR none) 0 P f _ w1 _).mono fun e w3 he => ?_
  cases e with
  | returned v =>
    have fr : Fr n ({ target := .collected D, args := #[] } :: ds) L { a with defers := [{ target := .collected D, args := #[] }] ++ a.defers } := ⟨hf.size, by simp [hf.defers], hf.get⟩
    have hsame : ∀ {o : Obj} {w3 : World} {b : Nat}, b ≠ l → (w3.putObj l o).heap[b]? = w3.heap[b]? := fun hne => World.putObj_heap_other (fun e => hne e)
    obtain ⟨N', hOwn, he⟩ := he
    rcases he with ⟨N, rfl, h1, h3, h4, h5, h6⟩ | ⟨k, N, c, rfl, h1, h3, h4, h5, h6⟩
    · exact ⟨_, _, run_endLoop h3 (by simp), hdone D N _ _ _ (hst _ _ _ _ [l] h1 (putObj_ext _ _ _) (fun x hx => by rw [List.mem_singleton] at hx; subst hx; exact ⟨h5, .inr hwl⟩)) (hOS _ _ _ l hOwn (.head _) (putObj_ext _ _ _)) h6 (by rw [hsame hDl]; exact h4) hwD fr⟩
    · exact ⟨_, _, run_endLoop h3 (by simp), hstop k c D N _ _ _ (hstX _ _ _ _ _ [l] h1 (putObj_ext _ _ _) (fun x hx => by rw [List.mem_singleton] at hx; subst hx; exact ⟨h5, .inr hwl⟩)) (hOS _ _ _ l hOwn (.head _) (putObj_ext _ _ _)) h6 (by rw [hsame hDl]; exact h4) hwD fr⟩
  | panicked c => exact he.elim
  | outgrown => exact he.elim
end
section
variable {P : Program} {Q : Exit → Act → World → Prop} {a : Act} {w w0 : World} {M : List Nat} {H : List (Nat × Obj)} {n : Nat} {ds : List Deferred} {L : List (Nat × Value)}
theorem sy_rangeRH {g : Operand} {ps : List Tmp} {asg body : Code} {f : FuncId} {fs cs : Array Value} {β : Type} {xs : List β} {At : β → Array Value → List Nat → World → Prop} {Mi : List Nat} {Own : List Nat → World → Prop} (I : Nat → List (Nat × Obj) → Prop) (X : Nat → Code → List (Nat × Obj) → Prop)
    (hf : Fr n ds L a) (hh : Hp w0 M H w) (hE : Enters P f) (hg : ev L g = some (.func (.func f) fs cs)) (it : IterR P f fs cs xs At Mi Own) (hMi : ∀ x ∈ Mi, x ∈ M ∨ w0.heap.size ≤ x)
    (hps : (ps.all fun t => Nat.blt t n) = true) (hsz : ∀ b x N w, At b x N w → x.size = ps.length)
    (hI0 : I 0 H) (hO0 : ∀ N' w', Ext [] w w' → Grows (H.map Prod.fst) N' w → Own N' w')
    (hround : ∀ k b x fn D l H v a' tm, xs[k]? = some b → At b x (l :: D :: H.map Prod.fst) v → I k H → (∀ y ∈ l :: D :: H.map Prod.fst, y ∈ M ∨ w0.heap.size ≤ y) → Hp w0 M H v → Hp v (l :: D :: H.map Prod.fst) ((l, .loop (rec0 fn tm ps.toArray asg body D .ready none)) :: (D, .deferred (some [])) :: H) v → Fr n [] (zipL ps.reverse x.toList.reverse ++ L) a' →
      WP P (some l) asg (Exit.then (Begun P l body (RoundEnd v (l :: D :: H.map Prod.fst) l (rec0 fn tm ps.toArray asg body D .busy none) D (I (k + 1)) (X k))) (fun _ _ _ => False)) a' v)
    (hdone : ∀ D H N' a v, I xs.length H → Own N' v → Fr n ({ target := .collected D, args := #[] } :: ds) L a → Hp w0 M ((D, .deferred (some [])) :: H) v → Q .normal a v)
    (hstop : ∀ k c D H N' a v, X k c H → Own N' v → Fr n ({ target := .collected D, args := #[] } :: ds) L a → Hp w0 M ((D, .deferred (some [])) :: H) v → WP P none c Q a v)
    (hOS : ∀ N v v' b, Own N v → b ∈ N → Ext [b] v v' → Own N v') :
    WP P none (.rangeFunc g ps.toArray asg body) Q a w := by
  have hlt : ∀ {H : List (Nat × Obj)} {v : World}, Hp w0 M H v → ∀ x ∈ H.map Prod.fst, x < v.heap.size := fun h x hx => by
    obtain ⟨q, hq, rfl⟩ := List.mem_map.1 hx
    exact (Array.getElem?_eq_some_iff.1 (h.get q hq)).1
  have hsz0 := hh.ext.size
  have keep : ∀ {H : List (Nat × Obj)} {v v' : World} {O : List Nat}, Hp w0 M H v → Ext O v v' → (∀ x ∈ O, x ∉ H.map Prod.fst ∧ (x ∈ Mi ∨ w.heap.size ≤ x)) → Hp w0 M H v' := fun h e hO =>
    h.others e fun x hx => ⟨(hO x hx).1, by
      rcases (hO x hx).2 with h1 | h1
      · exact hMi x h1
      · exact .inr (Nat.le_trans hsz0 h1)⟩
  have mark : ∀ {H : List (Nat × Obj)} {v : World} {D : Nat}, Hp w0 M H v → D ∉ H.map Prod.fst → v.heap[D]? = some (.deferred (some [])) → w.heap.size ≤ D → Hp w0 M ((D, .deferred (some [])) :: H) v := fun {H v D} h hD hv hs =>
    ⟨h.ext, fun q hq => by
      rcases List.mem_cons.1 hq with rfl | hq
      · exact hv
      · exact h.get q hq, by rw [List.map_cons, List.nodup_cons]; exact ⟨hD, h.nodup⟩, fun q hq => by
      rcases List.mem_cons.1 hq with rfl | hq
      · exact .inl (Nat.le_trans hsz0 hs)
      · exact h.mine q hq⟩
  refine sy_rangeR (fun k N v => ∃ H, I k H ∧ N = H.map Prod.fst ∧ Hp w0 M H v) (fun k c N v => ∃ H, X k c H ∧ N = H.map Prod.fst ∧ Hp w0 M H v) (H.map Prod.fst) hf hE hg it hps hsz ⟨H, hI0, rfl, hh⟩ hO0 ?_ ?_ ?_ ?_ ?_ ?_ ?_ hOS
  · rintro k N v ⟨H, _, rfl, h⟩; exact hlt h
  · rintro k c N v ⟨H, _, rfl, h⟩; exact hlt h
  · rintro k N v v' O ⟨H, h1, rfl, h⟩ e hO; exact ⟨H, h1, rfl, keep h e hO⟩
  · rintro k c N v v' O ⟨H, h1, rfl, h⟩ e hO; exact ⟨H, h1, rfl, keep h e hO⟩
  · rintro k bb x fn D l N v a' tm hx hat ⟨H, hI, rfl, h⟩ hr hl hD hwl hwD hf'
    have hv : Hp v (l :: D :: H.map Prod.fst) ((l, .loop (rec0 fn tm ps.toArray asg body D .ready none)) :: (D, .deferred (some [])) :: H) v := by
      refine ⟨.refl _ _, fun q hq => ?_, ?_, fun q hq => ?_⟩
      · rcases List.mem_cons.1 hq with rfl | hq
        · exact hr.get _ (.head _)
        · rcases List.mem_cons.1 hq with rfl | hq
          · exact hr.get _ (.tail _ (.head _))
          · exact h.get q hq
      · have := hr.nodup
        simp only [List.map_cons, List.map_nil, List.nodup_cons, List.mem_cons, not_or] at this ⊢
        exact ⟨⟨this.1.1, hl⟩, hD, h.nodup⟩
      · rcases List.mem_cons.1 hq with rfl | hq
        · exact .inr (.head _)
        · rcases List.mem_cons.1 hq with rfl | hq
          · exact .inr (.tail _ (.head _))
          · exact .inr (.tail _ (.tail _ (List.mem_map.2 ⟨q, hq, rfl⟩)))
    have fin : ∀ {H' : List (Nat × Obj)} {o : Obj} {v' : World}, Hp v (l :: D :: H.map Prod.fst) ((l, o) :: (D, .deferred (some [])) :: H') v' →
        Hp w0 M H' v' ∧ Grows (H.map Prod.fst) (H'.map Prod.fst) v ∧ Ext (l :: D :: H.map Prod.fst) v v' ∧ v'.heap[l]? = some o ∧ v'.heap[D]? = some (.deferred (some [])) ∧ l ∉ H'.map Prod.fst ∧ D ∉ H'.map Prod.fst := fun {H' o v'} h' => by
      have hn := h'.nodup
      simp only [List.map_cons, List.nodup_cons, List.mem_cons, not_or] at hn
      have hg : Grows (H.map Prod.fst) (H'.map Prod.fst) v := fun y hy => by
        obtain ⟨q, hq, rfl⟩ := List.mem_map.1 hy
        rcases h'.mine q (.tail _ (.tail _ hq)) with h1 | h1
        · exact .inr h1
        · rcases List.mem_cons.1 h1 with h1 | h1
          · exact absurd (h1 ▸ hy) hn.1.2
          · rcases List.mem_cons.1 h1 with h1 | h1
            · exact absurd (h1 ▸ hy) hn.2.1
            · exact .inl h1
      refine ⟨?_, hg, h'.ext, h'.get _ (.head _), h'.get _ (.tail _ (.head _)), hn.1.2, hn.2.1⟩
      refine ⟨⟨h'.ext.os.trans h.ext.os, h'.ext.tape.trans h.ext.tape, h'.ext.output.trans h.ext.output, Nat.le_trans h.ext.size h'.ext.size, Nat.le_trans h.ext.dr h'.ext.dr, fun k hk hm => ?_⟩, fun q hq => h'.get q (.tail _ (.tail _ hq)), hn.2.2, fun q hq => ?_⟩
      · refine (h'.ext.block k (Nat.lt_of_lt_of_le hk h.ext.size) fun hx => ?_).trans (h.ext.block k hk hm)
        rcases List.mem_cons.1 hx with rfl | hx
        · omega
        · rcases List.mem_cons.1 hx with rfl | hx
          · omega
          · obtain ⟨q, hq, rfl⟩ := List.mem_map.1 hx
            rcases h.mine q hq with h1 | h1
            · omega
            · exact hm h1
      · rcases hg q.1 (List.mem_map.2 ⟨q, hq, rfl⟩) with h1 | h1
        · obtain ⟨q', hq', e⟩ := List.mem_map.1 h1
          have := h.mine q' hq'
          rwa [e] at this
        · exact .inl (Nat.le_trans h.ext.size h1)
    refine wpIn_mono (hround k bb x fn D l H v a' tm hx hat hI (fun y hy => by
      rcases List.mem_cons.1 hy with rfl | hy
      · exact .inr (Nat.le_trans hsz0 hwl)
      · rcases List.mem_cons.1 hy with rfl | hy
        · exact .inr (Nat.le_trans hsz0 hwD)
        · obtain ⟨q, hq, rfl⟩ := List.mem_map.1 hy
          exact (h.mine q hq).symm) h hv hf') fun e a1 v1 he => ?_
    cases e with
    | normal =>
      obtain ⟨v2, hb, hbody⟩ := he
      refine ⟨v2, hb, wpIn_mono hbody fun e a2 v3 h3 => ?_⟩
      cases e with
      | normal => obtain ⟨H', hI', h'⟩ := h3; obtain ⟨f1, f2, f3, f4, f5, f6, f7⟩ := fin h'; exact ⟨_, ⟨H', hI', rfl, f1⟩, f2, f3, f4, f5, f6, f7⟩
      | ret => obtain ⟨H', hI', h'⟩ := h3; obtain ⟨f1, f2, f3, f4, f5, f6, f7⟩ := fin h'; exact ⟨_, ⟨H', hI', rfl, f1⟩, f2, f3, f4, f5, f6, f7⟩
      | exit id => obtain ⟨H', hI', h'⟩ := h3; obtain ⟨f1, f2, f3, f4, f5, f6, f7⟩ := fin h'; exact ⟨_, ⟨H', hI', rfl, f1⟩, f2, f3, f4, f5, f6, f7⟩
      | goto t => exact h3.elim
      | panic c => exact h3.elim
      | outgrown => exact h3.elim
    | exit id => exact he.elim
    | goto t => exact he.elim
    | ret => exact he.elim
    | panic c => exact he.elim
    | outgrown => exact he.elim
  · rintro D N N' a v ⟨H, hI, rfl, h⟩ hOw hD hv hs hf'; exact hdone D H N' a v hI hOw hf' (mark h hD hv hs)
  · rintro k c D N N' a v ⟨H, hX, rfl, h⟩ hOw hD hv hs hf'; exact hstop k c D H N' a v hX hOw hf' (mark h hD hv hs)
end
end Go.Sy

