/- Lemmas, in order: Regions whose order is open: a tree of orders; each look at memory with a class of worlds of its own; operations that look at nothing are free. Equality of values that are made of integers alone: structs, arrays, and those inside one another.. -/
import Derived.Test.YtidieepndphodaaGreatQ4
import Derived.ChangeKeysEq
namespace Go.Sy
open Go Go.Proofs Go.RowKit
abbrev Cls := List ((World → Prop) × List Nat)
/-- An operation leaves each class of worlds that it must not break. -/
def Pres : Cls → Nat → World → World → Prop
  | [], _, _, _ => True
  | p :: l, k, w, w' => (p.2.contains k = false → p.1 w → p.1 w') ∧ Pres l k w w'
theorem Pres.get {k : Nat} {w w' : World} : ∀ {l : Cls} {p : (World → Prop) × List Nat}, Pres l k w w' → p ∈ l → p.2.contains k = false → p.1 w → p.1 w'
  | q :: l, p, h, hp, hk => by
    rcases List.mem_cons.1 hp with rfl | hp
    · exact h.1 hk
    · exact h.2.get hp hk
theorem Pres.refl {k : Nat} {w : World} : ∀ {l : Cls}, Pres l k w w
  | [] => trivial
  | _ :: _ => ⟨fun _ h => h, Pres.refl⟩
/-- Worlds in which some blocks are what they are. -/
def AtE (u : World) (M : List Nat) (H : List (Nat × Obj)) (w : World) : Prop := Ext M u w ∧ ∀ p ∈ H, w.heap[p.1]? = some p.2
theorem AtE.at {u w : World} {M : List Nat} {H : List (Nat × Obj)} (h : AtE u M H w) {i b : Nat} {o : Obj} (hi : H[i]? = some (b, o)) : w.heap[b]? = some o := h.2 (b, o) (List.mem_of_getElem? hi)
theorem AtE.old {u w : World} {H : List (Nat × Obj)} (h : AtE u [] H w) {b : Nat} {o : Obj} (hb : u.heap[b]? = some o) : w.heap[b]? = some o := h.1.get hb
theorem AtE.oldM {u w : World} {M : List Nat} {H : List (Nat × Obj)} (h : AtE u M H w) {b : Nat} {o : Obj} (hb : u.heap[b]? = some o) (hm : b ∉ M) : w.heap[b]? = some o := h.1.getM hb hm
theorem AtE.of {u w : World} {M : List Nat} {H H' : List (Nat × Obj)} (hh : Hp u M H' w) (h : H ⊆ H') : AtE u M H w := ⟨hh.ext, fun p hp => hh.get p (h hp)⟩
theorem AtE.mk1 {u w : World} {M : List Nat} {b : Nat} {o : Obj} (e : Ext M u w) (h : w.heap[b]? = some o) : AtE u M [(b, o)] w := ⟨e, fun p hp => by rw [List.mem_singleton] at hp; subst hp; exact h⟩
theorem AtE.mk2 {u w : World} {M : List Nat} {b b2 : Nat} {o o2 : Obj} (e : Ext M u w) (h : w.heap[b]? = some o) (h2 : w.heap[b2]? = some o2) : AtE u M [(b, o), (b2, o2)] w := ⟨e, fun p hp => by
  simp only [List.mem_cons, List.not_mem_nil, or_false] at hp
  rcases hp with rfl | rfl
  · exact h
  · exact h2⟩
inductive OC where
  | fin
  | p (k : Nat) (t : OC)
  | q (c k : Nat) (t : OC)
  | e1 (k : Nat) (t : OC)
  | e2 (k : Nat) (t : OC) (k2 : Nat) (t2 : OC)
  | e3 (k : Nat) (t : OC) (k2 : Nat) (t2 : OC) (k3 : Nat) (t3 : OC)
section
variable {P : Program} {r : Option Nat} {ops : Array Oper} {md : Region.Mode} {Cs : Cls} {Q : Act → World → Prop}
def LC (P : Program) (r : Option Nat) (md : Region.Mode) (ops : Array Oper) (Cs : Cls) (Q : Act → World → Prop) : Nat → Array Bool → Act → World → Prop
  | 0, listed, a, w => Region.ready md ops listed = [] ∧ Q a w
  | f + 1, listed, a, w => (Region.ready md ops listed = [] → Q a w) ∧
      ∀ i ∈ Region.ready md ops listed, wpOpIn (FR r) 0 P ops QF i (fun a' w' => Pres Cs i w w' ∧ LC P r md ops Cs Q f (listed.setIfInBounds i true) a' w') a w
theorem wpAny_of_LC {Q' : Exit → Act → World → Prop} (hQ : ∀ a w, Q a w → Q' .normal a w) :
    ∀ (f : Nat) (listed : Array Bool) (a : Act) (w : World), LC P r md ops Cs Q f listed a w → wpAnyIn (FR r) 0 P md ops Q' f listed a w
  | 0, _, _, _, h => ⟨h.1, hQ _ _ h.2⟩
  | f + 1, listed, a, w, h => ⟨fun h0 => hQ _ _ (h.1 h0), fun i hi => wpOp_qf (fun _ _ _ h => h.elim) (fun ⟨_, _, h⟩ => h.elim) (wpOpIn_mono (fun a' w' h' => wpAny_of_LC hQ f _ a' w' h'.2) (h.2 i hi))⟩
theorem LC_first {i : Nat} {oi : Oper} {v : Value} {C : World → Prop} (hnd : noDefer ops = true) (hi : ops[i]? = some oi) (hsel : ∀ (j : Nat) (o : Oper) cs b, ops[j]? = some o → o.op ≠ .select cs b)
    (hstep : ∀ listed j w w', Down md ops listed → listed.getD i true = false → j ∈ Region.ready md ops listed → Pres Cs j w w' → C w → C w') :
    ∀ (fuel : Nat) (listed : Array Bool) (a : Act) (w : World), C w → Down md ops listed →
      (∀ j oj, ops[j]? = some oj → j ≠ i → listed.getD j true = false → (∀ e ∈ oj.after, Region.binds md e = true → e.on ≠ i) → oi.apart ops oj = true) →
      i ∈ Region.ready md ops listed → YieldsC P ops C oi v a →
      LC P r md ops Cs Q fuel (listed.setIfInBounds i true) (a.put oi.dst v) w → LC P r md ops Cs Q (fuel + 1) listed a w := by
  intro fuel
  induction fuel with
  | zero =>
    intro listed a w hC _ _ hr hy H
    refine ⟨fun h => (by rw [h] at hr; cases hr), fun j hj => ?_⟩
    by_cases hji : j = i
    · subst hji; exact hy.wpOp (noDefer_get hnd hi) hi hC ⟨Pres.refl, H⟩
    · have := ready_mono hj hji
      rw [H.1] at this
      cases this
  | succ fuel ih =>
    intro listed a w hC hdown hfree hr hy H
    refine ⟨fun h => (by rw [h] at hr; cases hr), fun j hj => ?_⟩
    by_cases hji : j = i
    · subst hji; exact hy.wpOp (noDefer_get hnd hi) hi hC ⟨Pres.refl, H⟩
    · have h1 := H.2 j (ready_mono hj hji)
      obtain ⟨hjun, oj, hoj, hall⟩ := mem_ready.1 hj
      have hnot : ∀ e ∈ oj.after, Region.binds md e = true → e.on ≠ i := fun e he hb heq => by
        have h1 := hall e he hb
        have h0 := (mem_ready.1 hr).1
        rw [heq] at h1
        rcases Nat.lt_or_ge i listed.size with h' | h'
        · simp [h'] at h0 h1; rw [h0] at h1; cases h1
        · simp [Array.getElem?_eq_none h'] at h1
      have h2 := wpOp_putC (noDefer_get hnd hoj) hoj (hfree j oj hoj hji hjun hnot) (fun cs b => hsel i oi cs b hi) (fun cs b => hsel j oj cs b hoj) hy h1
      have hfree' : ∀ k ok, ops[k]? = some ok → k ≠ i → (listed.setIfInBounds j true).getD k true = false →
          (∀ e ∈ ok.after, Region.binds md e = true → e.on ≠ i) → oi.apart ops ok = true := fun k ok hk hki hun hno => by
        refine hfree k ok hk hki ?_ hno
        by_cases hjk : j = k
        · subst hjk; exact hjun
        · rw [getD_set_ne true hjk] at hun; exact hun
      refine wpOpIn_mono (fun a' w' h3 => ⟨h3.2.1, ih (listed.setIfInBounds j true) a' w' (hstep listed j w w' hdown (mem_ready.1 hr).1 hj h3.2.1 hC) (hdown.set hj) hfree' (ready_mono hr (Ne.symm hji)) h3.1 ?_⟩) h2
      rw [Array.setIfInBounds_comm _ _ hji]
      exact h3.2.2
def EffC (P : Program) (r : Option Nat) (ops : Array Oper) (Cs : Cls) (k : Nat) (K : Act → World → Prop) (a : Act) (w : World) : Prop :=
  wpOpIn (FR r) 0 P ops QF k (fun a' w' => Pres Cs k w w' ∧ K a' w') a w
def MixC (P : Program) (r : Option Nat) (ops : Array Oper) (Cs : Cls) (Q : Act → World → Prop) : OC → Act → World → Prop
  | .fin, a, w => Q a w
  | .p k t, a, w => ∃ o, ops[k]? = some o ∧ ∃ v, YieldsC P ops (fun _ => True) o v a ∧ MixC P r ops Cs Q t (a.put o.dst v) w
  | .q c k t, a, w => ∃ o p, ops[k]? = some o ∧ Cs[c]? = some p ∧ p.1 w ∧ ∃ v, YieldsC P ops p.1 o v a ∧ MixC P r ops Cs Q t (a.put o.dst v) w
  | .e1 k t, a, w => EffC P r ops Cs k (MixC P r ops Cs Q t) a w
  | .e2 k t k2 t2, a, w => EffC P r ops Cs k (MixC P r ops Cs Q t) a w ∧ EffC P r ops Cs k2 (MixC P r ops Cs Q t2) a w
  | .e3 k t k2 t2 k3 t3, a, w => EffC P r ops Cs k (MixC P r ops Cs Q t) a w ∧ EffC P r ops Cs k2 (MixC P r ops Cs Q t2) a w ∧ EffC P r ops Cs k3 (MixC P r ops Cs Q t3) a w
def treeC (md : Region.Mode) (ops : Array Oper) (lates : List (List Nat)) : OC → Nat → Array Bool → Bool
  | .fin, f, listed => decide (f = 0) && (Region.ready md ops listed).isEmpty
  | .p k t, f, listed => decide (0 < f) && (Region.ready md ops listed).contains k && Region.free md ops listed k && treeC md ops lates t (f - 1) (listed.setIfInBounds k true)
  | .q c k t, f, listed => decide (0 < f) && (Region.ready md ops listed).contains k && Region.free md ops listed k && ((lates.getD c []).all fun j => reach md ops 40 k j) && treeC md ops lates t (f - 1) (listed.setIfInBounds k true)
  | .e1 k t, f, listed => decide (0 < f) && decide (Region.ready md ops listed = [k]) && treeC md ops lates t (f - 1) (listed.setIfInBounds k true)
  | .e2 k t k2 t2, f, listed => decide (0 < f) && decide (Region.ready md ops listed = [k, k2]) && treeC md ops lates t (f - 1) (listed.setIfInBounds k true) && treeC md ops lates t2 (f - 1) (listed.setIfInBounds k2 true)
  | .e3 k t k2 t2 k3 t3, f, listed => decide (0 < f) && decide (Region.ready md ops listed = [k, k2, k3]) && treeC md ops lates t (f - 1) (listed.setIfInBounds k true) && treeC md ops lates t2 (f - 1) (listed.setIfInBounds k2 true) && treeC md ops lates t3 (f - 1) (listed.setIfInBounds k3 true)
theorem LC_tree {lates : List (List Nat)} (hlt : Cs.map Prod.snd = lates) (hnd : noDefer ops = true) (hs : Region.noSelect ops = true) :
    ∀ (t : OC) (f : Nat) (listed : Array Bool) (a : Act) (w : World), Down md ops listed → treeC md ops lates t f listed = true → MixC P r ops Cs Q t a w → LC P r md ops Cs Q f listed a w
  | .fin, f, listed, a, w, _, hB, h => by
    simp only [treeC, Bool.and_eq_true, decide_eq_true_eq] at hB
    obtain ⟨rfl, hB⟩ := hB
    exact ⟨by simpa using hB, h⟩
  | .p k t, f, listed, a, w, hdown, hB, h => by
    simp only [treeC, Bool.and_eq_true, decide_eq_true_eq] at hB
    obtain ⟨⟨⟨h0, hr⟩, hf⟩, hB'⟩ := hB
    obtain ⟨g, rfl⟩ : ∃ g, f = g + 1 := ⟨f - 1, by omega⟩
    obtain ⟨o, ho, v, hy, h⟩ := h
    have hr' : k ∈ Region.ready md ops listed := by simpa using hr
    exact LC_first (C := fun _ => True) hnd ho (Region.noSelect_spec hs) (fun _ _ _ _ _ _ _ _ _ => trivial) g listed a w trivial hdown (Region.free_spec ho hf) hr' hy (LC_tree hlt hnd hs t _ _ _ _ (hdown.set hr') hB' h)
  | .q c k t, f, listed, a, w, hdown, hB, h => by
    simp only [treeC, Bool.and_eq_true, decide_eq_true_eq] at hB
    obtain ⟨⟨⟨⟨h0, hr⟩, hf⟩, hl⟩, hB'⟩ := hB
    obtain ⟨g, rfl⟩ : ∃ g, f = g + 1 := ⟨f - 1, by omega⟩
    obtain ⟨o, p, ho, hp, hC, v, hy, h⟩ := h
    have hr' : k ∈ Region.ready md ops listed := by simpa using hr
    have hpl : lates.getD c [] = p.2 := by
      rw [← hlt, List.getD_eq_getElem?_getD, List.getElem?_map, hp]; rfl
    rw [hpl] at hl
    refine LC_first (C := p.1) hnd ho (Region.noSelect_spec hs) (fun listed j w w' hd hu hj hP hC => ?_) g listed a w hC hdown (Region.free_spec ho hf) hr' hy (LC_tree hlt hnd hs t _ _ _ _ (hdown.set hr') hB' h)
    refine hP.get (List.mem_of_getElem? hp) ?_ hC
    cases hlj : p.2.contains j
    · rfl
    · exact (reach_ready hd hu (List.all_eq_true.1 hl j (by simpa using hlj)) hj).elim
  | .e1 k t, f, listed, a, w, hdown, hB, h => by
    simp only [treeC, Bool.and_eq_true, decide_eq_true_eq] at hB
    obtain ⟨⟨h0, hr⟩, hB'⟩ := hB
    obtain ⟨g, rfl⟩ : ∃ g, f = g + 1 := ⟨f - 1, by omega⟩
    simp only [MixC, EffC] at h
    refine ⟨fun h0 => (by rw [hr] at h0; cases h0), fun i hi => ?_⟩
    have hi' := hi
    rw [hr] at hi
    simp only [List.mem_cons, List.not_mem_nil, or_false] at hi
    subst hi
    exact wpOpIn_mono (fun a' w' h' => ⟨h'.1, LC_tree hlt hnd hs t _ _ _ _ (hdown.set hi') hB' h'.2⟩) h
  | .e2 k t k2 t2, f, listed, a, w, hdown, hB, h => by
    simp only [treeC, Bool.and_eq_true, decide_eq_true_eq] at hB
    obtain ⟨⟨⟨h0, hr⟩, hB'⟩, hB2⟩ := hB
    obtain ⟨g, rfl⟩ : ∃ g, f = g + 1 := ⟨f - 1, by omega⟩
    simp only [MixC, EffC] at h
    refine ⟨fun h0 => (by rw [hr] at h0; cases h0), fun i hi => ?_⟩
    have hi' := hi
    rw [hr] at hi
    simp only [List.mem_cons, List.not_mem_nil, or_false] at hi
    rcases hi with rfl | rfl
    · exact wpOpIn_mono (fun a' w' h' => ⟨h'.1, LC_tree hlt hnd hs t _ _ _ _ (hdown.set hi') hB' h'.2⟩) h.1
    · exact wpOpIn_mono (fun a' w' h' => ⟨h'.1, LC_tree hlt hnd hs t2 _ _ _ _ (hdown.set hi') hB2 h'.2⟩) h.2
  | .e3 k t k2 t2 k3 t3, f, listed, a, w, hdown, hB, h => by
    simp only [treeC, Bool.and_eq_true, decide_eq_true_eq] at hB
    obtain ⟨⟨⟨⟨h0, hr⟩, hB'⟩, hB2⟩, hB3⟩ := hB
    obtain ⟨g, rfl⟩ : ∃ g, f = g + 1 := ⟨f - 1, by omega⟩
    simp only [MixC, EffC] at h
    refine ⟨fun h0 => (by rw [hr] at h0; cases h0), fun i hi => ?_⟩
    have hi' := hi
    rw [hr] at hi
    simp only [List.mem_cons, List.not_mem_nil, or_false] at hi
    rcases hi with rfl | rfl | rfl
    · exact wpOpIn_mono (fun a' w' h' => ⟨h'.1, LC_tree hlt hnd hs t _ _ _ _ (hdown.set hi') hB' h'.2⟩) h.1
    · exact wpOpIn_mono (fun a' w' h' => ⟨h'.1, LC_tree hlt hnd hs t2 _ _ _ _ (hdown.set hi') hB2 h'.2⟩) h.2.1
    · exact wpOpIn_mono (fun a' w' h' => ⟨h'.1, LC_tree hlt hnd hs t3 _ _ _ _ (hdown.set hi') hB3 h'.2⟩) h.2.2
end
theorem sy_treeC {P : Program} {r : Option Nat} {id : Nat} {Q : Exit → Act → World → Prop} {a : Act} {w w0 : World} {M : List Nat} {H : List (Nat × Obj)} {l : List Oper} (t : OC) (lates : List (List Nat)) (Cs : Cls) (hm : P.follows .mixedOrders = true)
    (hB : (noDefer l.toArray && Region.noSelect l.toArray && treeC .any l.toArray lates t l.toArray.size (Array.replicate l.toArray.size false)) = true) (hlt : Cs.map Prod.snd = lates)
    (hh : Hp w0 M H w) (h : ∀ w, Hp w0 M H w → MixC P r l.toArray Cs (fun a w => Q .normal a w) t a w) : WP P r (.region id l.toArray true) Q a w := by
  simp only [Bool.and_eq_true] at hB
  obtain ⟨⟨h1, h2⟩, h3⟩ := hB
  exact wpIn_region_any hm (wpAny_of_LC (Cs := Cs) (Q := fun a w => Q .normal a w) (fun _ _ h => h) _ _ _ _ (LC_tree hlt h1 h2 t _ _ a _ (Down.none _) h3 (h _ (hh.drawn (w.drawn + 1)))))
/-- One class alone: what is known at the start. -/
theorem sy_tree1 {P : Program} {r : Option Nat} {id : Nat} {Q : Exit → Act → World → Prop} {a : Act} {w w0 : World} {M : List Nat} {H : List (Nat × Obj)} {l : List Oper} (t : OC) (late : List Nat) (hm : P.follows .mixedOrders = true)
    (hB : (noDefer l.toArray && Region.noSelect l.toArray && treeC .any l.toArray [late] t l.toArray.size (Array.replicate l.toArray.size false)) = true)
    (hh : Hp w0 M H w) (h : ∀ w, Hp w0 M H w → MixC P r l.toArray [(Hp w0 M H, late)] (fun a w => Q .normal a w) t a w) : WP P r (.region id l.toArray true) Q a w := sy_treeC t [late] [(Hp w0 M H, late)] hm hB rfl hh h
section
variable {P : Program} {r : Option Nat} {ops : Array Oper} {Cs : Cls} {Q : Act → World → Prop} {k n c : Nat} {t : OC} {ds : List Deferred} {L : List (Nat × Value)} {a : Act} {w : World} {o : Oper} {d : Nat} {v : Value} {p : (World → Prop) × List Nat}
theorem mc_p (ho : ops[k]? = some o) (hf : Fr n ds L a) (y : Yv P (fun _ => True) L o v) (hg : GOn ops L o) (hd : o.dst = some d) (hn : Nat.blt d n = true)
    (K : ∀ a, Fr n ds ((d, v) :: L) a → MixC P r ops Cs Q t a w) : MixC P r ops Cs Q (.p k t) a w :=
  ⟨o, ho, v, .inl ⟨hg.wanted hf, fun w hw => y _ hf.agree w hw⟩, by rw [hd]; exact K _ (hf.put (blt_lt hn) v)⟩
theorem mc_off (ho : ops[k]? = some o) (hf : Fr n ds L a) (hg : GOff ops L o) (hd : o.dst = some d) (hn : Nat.blt d n = true)
    (K : ∀ a, Fr n ds ((d, undef) :: L) a → MixC P r ops Cs Q t a w) : MixC P r ops Cs Q (.p k t) a w :=
  ⟨o, ho, undef, .inr ⟨hg.wanted hf, rfl⟩, by rw [hd]; exact K _ (hf.put (blt_lt hn) undef)⟩
theorem mc_q (ho : ops[k]? = some o) (hc : Cs[c]? = some p) (hC : p.1 w) (hf : Fr n ds L a) (y : Yv P p.1 L o v) (hg : GOn ops L o) (hd : o.dst = some d) (hn : Nat.blt d n = true)
    (K : ∀ a, Fr n ds ((d, v) :: L) a → MixC P r ops Cs Q t a w) : MixC P r ops Cs Q (.q c k t) a w :=
  ⟨o, p, ho, hc, hC, v, .inl ⟨hg.wanted hf, fun w hw => y _ hf.agree w hw⟩, by rw [hd]; exact K _ (hf.put (blt_lt hn) v)⟩
theorem mc_e {K : Act → World → Prop} (ho : ops[k]? = some o) (h : ∀ Q', OpsW P r ops (Exit.then (fun a' w' => Pres Cs k w w' ∧ K a' w') Q') [o] a w) : EffC P r ops Cs k K a w := by
  have h := h QF
  simp only [OpsW] at h
  unfold EffC wpOpIn
  simp only [ho]
  split
  · rename_i hw
    rw [if_pos hw] at h
    exact wpIn_qf (fun _ _ _ h => h) (fun ⟨_, _, h⟩ => ⟨a, w, h⟩) (Oper.wpIn_mono (fun _ _ h => h) h)
  · rename_i hw
    rw [if_neg hw] at h
    exact ⟨fun _ _ => trivial, h⟩
theorem mc_offq (ho : ops[k]? = some o) (hc : Cs[c]? = some p) (hC : p.1 w) (hf : Fr n ds L a) (hg : GOff ops L o) (hd : o.dst = some d) (hn : Nat.blt d n = true)
    (K : ∀ a, Fr n ds ((d, undef) :: L) a → MixC P r ops Cs Q t a w) : MixC P r ops Cs Q (.q c k t) a w :=
  ⟨o, p, ho, hc, hC, undef, .inr ⟨hg.wanted hf, rfl⟩, by rw [hd]; exact K _ (hf.put (blt_lt hn) undef)⟩
theorem guard_any {G : Prop} {c : Bool} {t : Nat} (_hf : Fr n ds L a) (_h : lk L t = some (.bool c)) (h1 : c = true → G) (h2 : c = false → G) : G := by
  cases c
  · exact h2 rfl
  · exact h1 rfl
theorem mc_end (h : Q a w) : MixC P r ops Cs Q .fin a w := h
end
end Go.Sy
namespace Go.Sy
open Go Go.Proofs
/-- How many cells a type of integers alone has. -/
def flatN (P : Program) : Nat → TypeId → Option Nat
  | 0, _ => none
  | d + 1, t => match P.underlying t with
    | some (.int _) => some 1
    | some (.struct fs) => match fs.toList.foldl (fun acc f => acc.bind fun off => if f.name ≠ "_" ∧ f.offset = off then (flatN P d f.type).map (off + ·) else none) (some 0) with
      | some n => if P.stoodInHeld t = false ∧ aggB P t = some n then some n else none
      | none => none
    | some (.array len e) => match flatN P d e with
      | some k => if P.cellsOf e = k ∧ (P.info? e).isSome ∧ aggB P t = some (len * k) then some (len * k) else none
      | none => none
    | _ => none
def flatF (P : Program) (d : Nat) : List Field → Nat → Option Nat
  | [], off => some off
  | f :: fs, off => if f.name ≠ "_" ∧ f.offset = off then match flatN P d f.type with
      | some k => flatF P d fs (off + k)
      | none => none
    else none
theorem flat_none {P : Program} {d : Nat} : ∀ (fs : List Field), fs.foldl (fun acc f => acc.bind fun off => if f.name ≠ "_" ∧ f.offset = off then (flatN P d f.type).map (off + ·) else none) none = (none : Option Nat)
  | [] => rfl
  | f :: fs => by rw [List.foldl_cons]; exact flat_none fs
theorem flat_fold {P : Program} {d : Nat} : ∀ (fs : List Field) (off : Nat), fs.foldl (fun acc f => acc.bind fun off => if f.name ≠ "_" ∧ f.offset = off then (flatN P d f.type).map (off + ·) else none) (some off) = flatF P d fs off
  | [], off => rfl
  | f :: fs, off => by
    rw [List.foldl_cons, flatF]
    simp only [Option.bind_some]
    split
    · cases h : flatN P d f.type with
      | none => exact flat_none fs
      | some k => exact flat_fold fs (off + k)
    · exact flat_none fs
/-- Integers from a cell on. -/
def IntsIn (X : Array Value) (o : Nat) (p : List Int) : Prop := ∀ j a, p[j]? = some a → X[o + j]? = some (.int .i64 a)
theorem IntsIn.take {X : Array Value} {o n : Nat} {p : List Int} (h : IntsIn X o p) : IntsIn X o (p.take n) := fun j a hj => by
  rw [List.getElem?_take] at hj
  split at hj
  · exact h j a hj
  · cases hj
theorem IntsIn.drop {X : Array Value} {o n : Nat} {p : List Int} (h : IntsIn X o p) : IntsIn X (o + n) (p.drop n) := fun j a hj => by
  rw [List.getElem?_drop] at hj
  rw [Nat.add_assoc]; exact h _ a hj
theorem IntsIn.ext {X : Array Value} {o n : Nat} {p : List Int} (h : IntsIn X o p) (hl : p.length = n) : IntsIn (X.extract o (o + n)) 0 p := fun j a hj => by
  have h1 := h j a hj
  have h2 := (List.getElem?_eq_some_iff.1 hj).1
  have h3 := (Array.getElem?_eq_some_iff.1 h1).1
  rw [Nat.zero_add, Array.getElem?_extract, if_pos (by omega), h1]
theorem dec_split (k : Nat) (p q : List Int) : decide (p = q) = (decide (p.take k = q.take k) && decide (p.drop k = q.drop k)) := by
  rw [Bool.eq_iff_iff]
  simp only [decide_eq_true_eq, Bool.and_eq_true]
  constructor
  · rintro rfl; exact ⟨rfl, rfl⟩
  · rintro ⟨h1, h2⟩; rw [← List.take_append_drop k p, h1, h2, List.take_append_drop]
section
variable {P : Program}
def EqAt (P : Program) (d : Nat) (t : TypeId) (n : Nat) : Prop := ∀ (X Y : Array Value) (o o' : Nat) (p q : List Int) (w : World), p.length = n → q.length = n → IntsIn X o p → IntsIn Y o' q →
  ∃ u v, (part t X o).run P w = .ok u w ∧ (part t Y o').run P w = .ok v w ∧ (Op.equalIn d t u v).run P w = .ok (decide (p = q)) w
theorem run_flatF {d : Nat} (ih : ∀ t n, flatN P d t = some n → EqAt P d t n) : ∀ (fs : List Field) (off m : Nat), flatF P d fs off = some m → ∀ (U V : Array Value) (p q : List Int) (w : World), off + p.length = m → off + q.length = m → IntsIn U off p → IntsIn V off q →
    (Op.eqFields d U V fs).run P w = .ok (decide (p = q)) w
  | [], off, m, h, U, V, p, q, w, hp, hq, _, _ => by
    simp only [flatF, Option.some.injEq] at h
    have h1 : p = [] := List.eq_nil_of_length_eq_zero (by omega)
    have h2 : q = [] := List.eq_nil_of_length_eq_zero (by omega)
    subst h1; subst h2
    simp [Op.eqFields]
  | f :: fs, off, m, h, U, V, p, q, w, hp, hq, hU, hV => by
    rw [flatF] at h
    split at h
    · rename_i hf
      split at h
      · rename_i k hk
        have hle : off + k ≤ m := by
          have key : ∀ (fs : List Field) (a b : Nat), flatF P d fs a = some b → a ≤ b := by
            intro fs
            induction fs with
            | nil => intro a b h; simp only [flatF, Option.some.injEq] at h; omega
            | cons g gs ihg =>
              intro a b h
              rw [flatF] at h
              split at h
              · split at h
                · have := ihg _ _ h; omega
                · cases h
              · cases h
          exact key fs _ _ h
        obtain ⟨u, v, h1, h2, h3⟩ := ih f.type k hk U V off off (p.take k) (q.take k) w (by rw [List.length_take]; omega) (by rw [List.length_take]; omega) hU.take hV.take
        have h4 := run_flatF ih fs (off + k) m h U V (p.drop k) (q.drop k) w (by rw [List.length_drop]; omega) (by rw [List.length_drop]; omega) hU.drop hV.drop
        rw [dec_split k p q]
        simp only [Op.eqFields, hf.1, ne_eq, not_false_eq_true, if_true, Sem.run_bind, hf.2, h1, h2, h3, Result.andThen_ok]
        cases decide (p.take k = q.take k)
        · simp
        · simp [h4]
      · cases h
    · cases h
theorem run_flatI {d k : Nat} {e : TypeId} (ih : EqAt P d e k) : ∀ (n s : Nat) (U V : Array Value) (p q : List Int) (w : World), p.length = n * k → q.length = n * k → IntsIn U (s * k) p → IntsIn V (s * k) q →
    (Op.eqItems d e k U V (List.range' s n)).run P w = .ok (decide (p = q)) w
  | 0, s, U, V, p, q, w, hp, hq, _, _ => by
    have h1 : p = [] := List.eq_nil_of_length_eq_zero (by omega)
    have h2 : q = [] := List.eq_nil_of_length_eq_zero (by omega)
    subst h1; subst h2
    simp [Op.eqItems]
  | n + 1, s, U, V, p, q, w, hp, hq, hU, hV => by
    rw [Nat.succ_mul] at hp hq
    obtain ⟨u, v, h1, h2, h3⟩ := ih U V (s * k) (s * k) (p.take k) (q.take k) w (by rw [List.length_take]; omega) (by rw [List.length_take]; omega) hU.take hV.take
    have h4 := run_flatI ih n (s + 1) U V (p.drop k) (q.drop k) w (by rw [List.length_drop]; omega) (by rw [List.length_drop]; omega) (by rw [Nat.succ_mul]; exact hU.drop) (by rw [Nat.succ_mul]; exact hV.drop)
    rw [dec_split k p q, List.range'_succ]
    simp only [Op.eqItems, Sem.run_bind, h1, h2, h3, Result.andThen_ok]
    cases decide (p.take k = q.take k)
    · simp
    · simp [h4]
theorem flat_eq : ∀ (d : Nat) (t : TypeId) (n : Nat), flatN P d t = some n → EqAt P d t n
  | 0, t, n, h => by simp [flatN] at h
  | d + 1, t, n, h => by
    intro X Y o o' p q w hp hq hX hY
    rw [flatN] at h
    split at h
    · rename_i k hk
      cases h
      have hs : scalB P t = true := by unfold scalB; rw [hk]
      obtain ⟨a, rfl⟩ : ∃ a, p = [a] := by
        match p, hp with
        | [a], _ => exact ⟨a, rfl⟩
      obtain ⟨b, rfl⟩ : ∃ b, q = [b] := by
        match q, hq with
        | [b], _ => exact ⟨b, rfl⟩
      have h1 := hX 0 a rfl
      have h2 := hY 0 b rfl
      rw [Nat.add_zero] at h1 h2
      refine ⟨.int .i64 a, .int .i64 b, by simp [part, run_isAgg_scal hs, h1], by simp [part, run_isAgg_scal hs, h2], ?_⟩
      rw [run_equalIn_int w d t .i64 k a b hk]
      congr 1
      by_cases e : a = b <;> simp [e]
    · rename_i fs hfs
      rw [flat_fold] at h
      split at h
      · rename_i m hm
        split at h
        · rename_i hc
          cases h
          obtain ⟨hs, hag⟩ := hc
          obtain ⟨h3, h4⟩ := run_isAgg_agg (w := w) hag
          have hfo : P.fieldsOf t = fs := by unfold Program.fieldsOf; rw [hfs]
          refine ⟨.agg (X.extract o (o + n)), .agg (Y.extract o' (o' + n)), by simp [part, h3, h4], by simp [part, h3, h4], ?_⟩
          rw [run_equalIn_struct w d t _ _ (by rw [hfo]; exact hfs) hs, hfo]
          exact run_flatF (fun t n => flat_eq d t n) fs.toList 0 n hm _ _ p q w (by omega) (by omega) (hX.ext hp) (hY.ext hq)
        · cases h
      · cases h
    · rename_i len e hu
      split at h
      · rename_i k hk
        split at h
        · rename_i hc
          cases h
          obtain ⟨hck, hinf, hag⟩ := hc
          obtain ⟨i, hi⟩ := Option.isSome_iff_exists.1 hinf
          obtain ⟨h3, h4⟩ := run_isAgg_agg (w := w) hag
          refine ⟨.agg (X.extract o (o + len * k)), .agg (Y.extract o' (o' + len * k)), by simp [part, h3, h4], by simp [part, h3, h4], ?_⟩
          rw [run_equalIn_array w d _ _ hu hi, hck, List.range_eq_range']
          exact run_flatI (flat_eq d e k hk) len 0 _ _ p q w hp hq (by rw [Nat.zero_mul]; exact hX.ext hp) (by rw [Nat.zero_mul]; exact hY.ext hq)
        · cases h
      · cases h
    · cases h
/-- A struct or an array of integers alone. -/
def flatB (P : Program) (t : TypeId) : Option Nat := match flatN P 9 t with
  | some n => if aggB P t = some n ∧ P.eqGuardType P.depth t = false then some n else none
  | none => none
theorem intsIn_map (p : List Int) : IntsIn (p.map (Value.int .i64)).toArray 0 p := fun j a hj => by
  rw [Nat.zero_add]; simp [hj]
theorem depth_mono {d : Nat} : ∀ {t : TypeId} {n : Nat}, flatN P d t = some n → flatN P (d + 1) t = some n := by
  induction d with
  | zero => intro t n h; simp [flatN] at h
  | succ d ih =>
    intro t n h
    have hF : ∀ (fs : List Field) (a b : Nat), flatF P d fs a = some b → flatF P (d + 1) fs a = some b := by
      intro fs
      induction fs with
      | nil => intro a b h; exact h
      | cons f fs ihf =>
        intro a b h
        rw [flatF] at h ⊢
        split at h
        · rename_i hf
          rw [if_pos hf]
          split at h
          · rename_i k hk; rw [ih hk]; exact ihf _ _ h
          · cases h
        · cases h
    rw [flatN] at h ⊢
    split at h
    · exact h
    · rename_i fs hfs
      rw [flat_fold] at h ⊢
      split at h
      · rename_i m hm; rw [hF _ _ _ hm]; exact h
      · cases h
    · rename_i len e hu
      split at h
      · rename_i k hk; rw [ih hk]; exact h
      · cases h
    · cases h
theorem flat_top {t : TypeId} {n : Nat} (h : flatB P t = some n) : ∀ (p q : List Int) (w : World), p.length = n → q.length = n → (Op.equalIn 10000 t (.agg (p.map (Value.int .i64)).toArray) (.agg (q.map (Value.int .i64)).toArray)).run P w = .ok (decide (p = q)) w := by
  intro p q w hp hq
  unfold flatB at h
  split at h
  · rename_i m hm
    split at h
    · rename_i hc
      cases h
      have h2 : ∀ k, flatN P (9 + k) t = some n := by
        intro k
        induction k with
        | zero => exact hm
        | succ k ih => exact depth_mono ih
      obtain ⟨u, v, h3, h4, h5⟩ := flat_eq 10000 t n (h2 9991) _ _ 0 0 p q w hp hq (intsIn_map p) (intsIn_map q)
      obtain ⟨h6, h7⟩ := run_isAgg_agg (w := w) hc.1
      have e : ∀ (p : List Int), p.length = n → (part t (p.map (Value.int .i64)).toArray 0).run P w = .ok (.agg (p.map (Value.int .i64)).toArray) w := fun p hp => by
        have e2 : (p.map (Value.int .i64)).take n = p.map (Value.int .i64) := List.take_of_length_le (by simp [hp])
        simp [part, h6, h7, e2]
      rw [e p hp] at h3
      rw [e q hq] at h4
      cases h3; cases h4
      exact h5
    · cases h
  · cases h
variable {C : World → Prop} {L : List (Nat × Value)} {dd : Option Tmp} {ty : TypeId} {pos : String} {af : Array Edge} {gd : Option (Nat × Bool)}
theorem flat_guard {t : TypeId} {n : Nat} (h : flatB P t = some n) : P.eqGuardType P.depth t = false := by
  unfold flatB at h
  split at h
  · split at h
    · rename_i hc; exact hc.2
    · cases h
  · cases h
theorem yv_eqF {t t' : TypeId} {x y : Operand} {n : Nat} (p q : List Int) (ht : flatB P t = some n) (hx : ev L x = some (.agg (p.map (Value.int .i64)).toArray)) (hy : ev L y = some (.agg (q.map (Value.int .i64)).toArray)) (hp : p.length = n := by rfl) (hq : q.length = n := by rfl) :
    Yv P C L ⟨dd, .binOp .eql t x y t', ty, pos, af, gd⟩ (.bool (decide (p = q))) := fun ρ hρ w _ => by
  have e := run_eqGuard_agg (P := P) w .eql t x y (p.map (Value.int .i64)).toArray (q.map (Value.int .i64)).toArray (flat_guard ht)
  have e2 := run_eql_struct (P := P) w t (p.map (Value.int .i64)).toArray (q.map (Value.int .i64)).toArray
  rw [flat_top ht p q w hp hq] at e2
  simp only [execOp, hρ _ _ hx, hρ _ _ hy, Sem.run_bind, e, e2, Result.andThen_ok]
  rfl
theorem yv_neF {t t' : TypeId} {x y : Operand} {n : Nat} (p q : List Int) (ht : flatB P t = some n) (hx : ev L x = some (.agg (p.map (Value.int .i64)).toArray)) (hy : ev L y = some (.agg (q.map (Value.int .i64)).toArray)) (hp : p.length = n := by rfl) (hq : q.length = n := by rfl) :
    Yv P C L ⟨dd, .binOp .neq t x y t', ty, pos, af, gd⟩ (.bool (!decide (p = q))) := fun ρ hρ w _ => by
  have e := run_eqGuard_agg (P := P) w .neq t x y (p.map (Value.int .i64)).toArray (q.map (Value.int .i64)).toArray (flat_guard ht)
  have e2 := run_neq_struct (P := P) w t (p.map (Value.int .i64)).toArray (q.map (Value.int .i64)).toArray
  rw [flat_top ht p q w hp hq] at e2
  simp only [execOp, hρ _ _ hx, hρ _ _ hy, Sem.run_bind, e, e2, Result.andThen_ok]
  rfl
end
end Go.Sy
