/- Lemmas, in order: Regions whose order is open, with calls that may panic.. -/
import Derived.Test.YtccpgpnekoncoaaGreatQ10
namespace Go.Sy
open Go Go.Proofs Go.RowKit
section
variable {P : Program} {r : Option Nat} {ops : Array Oper} {md : Region.Mode} {C : World → Prop} {X : List PanicEntry → World → Prop}
abbrev QP (X : List PanicEntry → World → Prop) : Exit → Act → World → Prop := fun e _ w => match e with
  | .panic c => X c w
  | _ => False
theorem YieldsC.wpOpX {i : Nat} {o : Oper} {v : Value} {a : Act} {w : World} (hd : isDefer o.op = false) (hi : ops[i]? = some o) (hy : YieldsC P ops C o v a) (hC : C w)
    {K : Act → World → Prop} (h : K (a.put o.dst v) w) : wpOpIn (FR r) 0 P ops (QP X) i K a w := by
  unfold Go.wpOpIn
  simp only [hi]
  rcases hy with ⟨hw, hv⟩ | ⟨hw, rfl⟩
  · simp only [hw, if_true, Oper.wpIn, semAt_of hd, hv w hC, Oper.uponIn]; exact ⟨fun _ _ => trivial, h⟩
  · simp only [hw, Bool.false_eq_true, if_false]; exact ⟨fun _ _ => trivial, h⟩

theorem wpOp_putX {j : Nat} {oi oj : Oper} {v : Value} (hd : isDefer oj.op = false) (hj : ops[j]? = some oj) (hap : oi.apart ops oj = true)
    (hsi : ∀ cs b, oi.op ≠ .select cs b) (hsj : ∀ cs b, oj.op ≠ .select cs b) {K : Act → World → Prop} {a : Act} {w : World}
    (hy : YieldsC P ops C oi v a) (h : wpOpIn (FR r) 0 P ops (QP X) j K (a.put oi.dst v) w) :
    wpOpIn (FR r) 0 P ops (QP X) j (fun a' w' => YieldsC P ops C oi v a' ∧ K (a'.put oi.dst v) w') a w := by
  obtain ⟨h1, h2, h3⟩ := Oper.apart_spec hap
  have keep : ∀ (a : Act), YieldsC P ops C oi v a → ∀ u, YieldsC P ops C oi v (a.put oj.dst u) := fun a hy u =>
    hy.of_same (execOp_put oi hsi a oj.dst u h3) (wanted_put oi a oj.dst u h3)
  unfold wpOpIn at *
  simp only [hj] at *
  rw [wanted_put oj a oi.dst v h1] at h
  split
  · rename_i hw
    simp only [hw, if_true] at h
    unfold Oper.wpIn at *
    refine ⟨fun _ _ => trivial, ?_⟩
    have h := h.2
    rw [semAt_of hd, execOp_put oj hsj a oi.dst v h1] at h
    rw [semAt_of hd]
    generalize (execOp a.eval oj).run P w = res at *
    cases res with
    | ok x w' =>
      cases x <;> simp only [Oper.uponIn] at h ⊢
      case value u => exact ⟨keep a hy u, by rw [← Act.put_comm a v u h2]; exact h⟩
      case skip => exact ⟨keep a hy _, by rw [← Act.put_comm a v undef h2]; exact h⟩
      case defer d =>
        have hy2 : YieldsC P ops C oi v { a with defers := d :: a.defers } := hy.of_same rfl rfl
        refine ⟨keep _ hy2 _, ?_⟩
        rw [← Act.put_comm _ v undef h2, ← Act.put_defers]
        exact h
      case enter f args =>
        refine ⟨h.1, CallsIn.mono h.2 fun e w'' he => ?_⟩
        cases e with
        | returned u => exact ⟨keep a hy u, by rw [← Act.put_comm a v u h2]; exact he⟩
        | panicked c => exact he
        | outgrown => exact he
      case row row args => exact ⟨h.1, RowsIn.mono h.2 fun u w'' he => ⟨keep a hy u, by rw [← Act.put_comm a v u h2]; exact he⟩⟩
      case round l f tmps assign body =>
        refine ⟨h.1, RoundIn.mono h.2 fun e w'' he => ?_⟩
        cases e with
        | returned u => exact ⟨keep a hy u, by rw [← Act.put_comm a v u h2]; exact he⟩
        | panicked c => exact he
        | outgrown => exact he
    | halt x w' =>
      cases x <;> simp only [Oper.uponIn] at h ⊢
      case panic u => exact h
  · rename_i hw
    simp only [hw] at h
    exact ⟨fun _ _ => trivial, keep a hy _, by rw [← Act.put_comm a v undef h2]; exact h.2⟩

end
section
variable {P : Program} {r : Option Nat} {ops : Array Oper} {md : Region.Mode} {Cs : Cls} {X : List PanicEntry → World → Prop} {Z : Act → Prop} {Q : Act → World → Prop}
def LCX (P : Program) (r : Option Nat) (md : Region.Mode) (ops : Array Oper) (Cs : Cls) (X : List PanicEntry → World → Prop) (Z : Act → Prop) (Q : Act → World → Prop) : Nat → Array Bool → Act → World → Prop
  | 0, listed, a, w => Region.ready md ops listed = [] ∧ Q a w
  | f + 1, listed, a, w => (Region.ready md ops listed = [] → Q a w) ∧
      ∀ i ∈ Region.ready md ops listed, wpOpIn (FR r) 0 P ops (QP X) i (fun a' w' => Z a' ∧ Pres Cs i w w' ∧ LCX P r md ops Cs X Z Q f (listed.setIfInBounds i true) a' w') a w
theorem wpOp_px {i : Nat} {a : Act} {w : World} {K : Act → World → Prop} {Q Q' : Exit → Act → World → Prop} (h1 : ∀ c w, Q (.panic c) a w → Q' (.panic c) a w) (h2 : LetsOut Q → LetsOut Q')
    (hh : wpOpIn (FR r) 0 P ops Q i K a w) : wpOpIn (FR r) 0 P ops Q' i K a w := by
  unfold wpOpIn at *
  split
  · rename_i ho; simp only [ho] at hh; exact hh
  · rename_i o ho
    simp only [ho] at hh
    split
    · rename_i hw
      simp only [hw, if_true] at hh
      unfold Oper.wpIn at *
      refine ⟨hh.1, ?_⟩
      have hh := hh.2
      generalize (o.semAt (FR r).round a.eval).run P w = res at *
      cases res with
      | ok x w' =>
        cases x <;> simp only [Oper.uponIn] at hh ⊢ <;>
          first
            | exact hh
            | exact ⟨hh.1, CallsIn.mono hh.2 (fun e w'' he => by cases e <;> first | exact he | exact h1 _ _ he | exact h2 he)⟩
            | exact ⟨hh.1, RoundIn.mono hh.2 (fun e w'' he => by cases e <;> first | exact he | exact h1 _ _ he | exact h2 he)⟩
      | halt x w' => cases x <;> simp only [Oper.uponIn] at hh ⊢ <;> exact h1 _ _ hh
    · rename_i hw; simp only [hw] at hh; exact hh
theorem wpAny_of_LCX {Q' : Exit → Act → World → Prop} (hQ : ∀ a w, Q a w → Q' .normal a w) (hX : ∀ c a w, X c w → Z a → Q' (.panic c) a w) :
    ∀ (f : Nat) (listed : Array Bool) (a : Act) (w : World), Z a → LCX P r md ops Cs X Z Q f listed a w → wpAnyIn (FR r) 0 P md ops Q' f listed a w
  | 0, _, _, _, _, h => ⟨h.1, hQ _ _ h.2⟩
  | f + 1, listed, a, w, h0, h => ⟨fun h0 => hQ _ _ (h.1 h0), fun i hi => wpOp_px (Q := QP X) (fun c w hc => hX c a w hc h0) (fun ⟨_, _, h⟩ => h.elim) (wpOpIn_mono (fun a' w' h' => wpAny_of_LCX hQ hX f _ a' w' h'.1 h'.2.2) (h.2 i hi))⟩
theorem LCX_first {i : Nat} {oi : Oper} {v : Value} {C : World → Prop} (hzb : ∀ a v, Z (a.put oi.dst v) → Z a) (hnd : noDefer ops = true) (hi : ops[i]? = some oi) (hsel : ∀ (j : Nat) (o : Oper) cs b, ops[j]? = some o → o.op ≠ .select cs b)
    (hstep : ∀ listed j w w', Down md ops listed → listed.getD i true = false → j ∈ Region.ready md ops listed → Pres Cs j w w' → C w → C w') :
    ∀ (fuel : Nat) (listed : Array Bool) (a : Act) (w : World), C w → Down md ops listed →
      (∀ j oj, ops[j]? = some oj → j ≠ i → listed.getD j true = false → (∀ e ∈ oj.after, Region.binds md e = true → e.on ≠ i) → oi.apart ops oj = true) →
      i ∈ Region.ready md ops listed → YieldsC P ops C oi v a → Z (a.put oi.dst v) →
      LCX P r md ops Cs X Z Q fuel (listed.setIfInBounds i true) (a.put oi.dst v) w → LCX P r md ops Cs X Z Q (fuel + 1) listed a w := by
  intro fuel
  induction fuel with
  | zero =>
    intro listed a w hC _ _ hr hy hZ H
    refine ⟨fun h => (by rw [h] at hr; cases hr), fun j hj => ?_⟩
    by_cases hji : j = i
    · subst hji; exact hy.wpOpX (noDefer_get hnd hi) hi hC ⟨hZ, Pres.refl, H⟩
    · have := ready_mono hj hji
      rw [H.1] at this
      cases this
  | succ fuel ih =>
    intro listed a w hC hdown hfree hr hy hZ H
    refine ⟨fun h => (by rw [h] at hr; cases hr), fun j hj => ?_⟩
    by_cases hji : j = i
    · subst hji; exact hy.wpOpX (noDefer_get hnd hi) hi hC ⟨hZ, Pres.refl, H⟩
    · have h1 := H.2 j (ready_mono hj hji)
      obtain ⟨hjun, oj, hoj, hall⟩ := mem_ready.1 hj
      have hnot : ∀ e ∈ oj.after, Region.binds md e = true → e.on ≠ i := fun e he hb heq => by
        have h1 := hall e he hb
        have h0 := (mem_ready.1 hr).1
        rw [heq] at h1
        rcases Nat.lt_or_ge i listed.size with h' | h'
        · simp [h'] at h0 h1; rw [h0] at h1; cases h1
        · simp [Array.getElem?_eq_none h'] at h1
      have h2 := wpOp_putX (noDefer_get hnd hoj) hoj (hfree j oj hoj hji hjun hnot) (fun cs b => hsel i oi cs b hi) (fun cs b => hsel j oj cs b hoj) hy h1
      have hfree' : ∀ k ok, ops[k]? = some ok → k ≠ i → (listed.setIfInBounds j true).getD k true = false →
          (∀ e ∈ ok.after, Region.binds md e = true → e.on ≠ i) → oi.apart ops ok = true := fun k ok hk hki hun hno => by
        refine hfree k ok hk hki ?_ hno
        by_cases hjk : j = k
        · subst hjk; exact hjun
        · rw [getD_set_ne true hjk] at hun; exact hun
      refine wpOpIn_mono (fun a' w' h3 => ⟨hzb _ _ h3.2.1, h3.2.2.1, ih (listed.setIfInBounds j true) a' w' (hstep listed j w w' hdown (mem_ready.1 hr).1 hj h3.2.2.1 hC) (hdown.set hj) hfree' (ready_mono hr (Ne.symm hji)) h3.1 h3.2.1 ?_⟩) h2
      rw [Array.setIfInBounds_comm _ _ hji]
      exact h3.2.2.2
def EffX (P : Program) (r : Option Nat) (ops : Array Oper) (Cs : Cls) (X : List PanicEntry → World → Prop) (Z : Act → Prop) (k : Nat) (K : Act → World → Prop) (a : Act) (w : World) : Prop :=
  wpOpIn (FR r) 0 P ops (QP X) k (fun a' w' => Z a' ∧ Pres Cs k w w' ∧ K a' w') a w
def MixX (P : Program) (r : Option Nat) (ops : Array Oper) (Cs : Cls) (X : List PanicEntry → World → Prop) (Z : Act → Prop) (Q : Act → World → Prop) : OC → Act → World → Prop
  | .fin, a, w => Q a w
  | .p k t, a, w => ∃ o, ops[k]? = some o ∧ ∃ v, YieldsC P ops (fun _ => True) o v a ∧ Z (a.put o.dst v) ∧ MixX P r ops Cs X Z Q t (a.put o.dst v) w
  | .q c k t, a, w => ∃ o p, ops[k]? = some o ∧ Cs[c]? = some p ∧ p.1 w ∧ ∃ v, YieldsC P ops p.1 o v a ∧ Z (a.put o.dst v) ∧ MixX P r ops Cs X Z Q t (a.put o.dst v) w
  | .e1 k t, a, w => EffX P r ops Cs X Z k (MixX P r ops Cs X Z Q t) a w
  | .e2 k t k2 t2, a, w => EffX P r ops Cs X Z k (MixX P r ops Cs X Z Q t) a w ∧ EffX P r ops Cs X Z k2 (MixX P r ops Cs X Z Q t2) a w
  | .e3 k t k2 t2 k3 t3, a, w => EffX P r ops Cs X Z k (MixX P r ops Cs X Z Q t) a w ∧ EffX P r ops Cs X Z k2 (MixX P r ops Cs X Z Q t2) a w ∧ EffX P r ops Cs X Z k3 (MixX P r ops Cs X Z Q t3) a w
theorem LCX_tree {lates : List (List Nat)} (hlt : Cs.map Prod.snd = lates) (hzb : ∀ (i : Nat) (o : Oper), ops[i]? = some o → ∀ a v, Z (a.put o.dst v) → Z a) (hnd : noDefer ops = true) (hs : Region.noSelect ops = true) :
    ∀ (t : OC) (f : Nat) (listed : Array Bool) (a : Act) (w : World), Down md ops listed → treeC md ops lates t f listed = true → MixX P r ops Cs X Z Q t a w → LCX P r md ops Cs X Z Q f listed a w
  | .fin, f, listed, a, w, _, hB, h => by
    simp only [treeC, Bool.and_eq_true, decide_eq_true_eq] at hB
    obtain ⟨rfl, hB⟩ := hB
    exact ⟨by simpa using hB, h⟩
  | .p k t, f, listed, a, w, hdown, hB, h => by
    simp only [treeC, Bool.and_eq_true, decide_eq_true_eq] at hB
    obtain ⟨⟨⟨h0, hr⟩, hf⟩, hB'⟩ := hB
    obtain ⟨g, rfl⟩ : ∃ g, f = g + 1 := ⟨f - 1, by omega⟩
    obtain ⟨o, ho, v, hy, hZ, h⟩ := h
    have hr' : k ∈ Region.ready md ops listed := by simpa using hr
    exact LCX_first (C := fun _ => True) (hzb _ _ ho) hnd ho (Region.noSelect_spec hs) (fun _ _ _ _ _ _ _ _ _ => trivial) g listed a w trivial hdown (Region.free_spec ho hf) hr' hy hZ (LCX_tree hlt hzb hnd hs t _ _ _ _ (hdown.set hr') hB' h)
  | .q c k t, f, listed, a, w, hdown, hB, h => by
    simp only [treeC, Bool.and_eq_true, decide_eq_true_eq] at hB
    obtain ⟨⟨⟨⟨h0, hr⟩, hf⟩, hl⟩, hB'⟩ := hB
    obtain ⟨g, rfl⟩ : ∃ g, f = g + 1 := ⟨f - 1, by omega⟩
    obtain ⟨o, p, ho, hp, hC, v, hy, hZ, h⟩ := h
    have hr' : k ∈ Region.ready md ops listed := by simpa using hr
    have hpl : lates.getD c [] = p.2 := by
      rw [← hlt, List.getD_eq_getElem?_getD, List.getElem?_map, hp]; rfl
    rw [hpl] at hl
    refine LCX_first (C := p.1) (hzb _ _ ho) hnd ho (Region.noSelect_spec hs) (fun listed j w w' hd hu hj hP hC => ?_) g listed a w hC hdown (Region.free_spec ho hf) hr' hy hZ (LCX_tree hlt hzb hnd hs t _ _ _ _ (hdown.set hr') hB' h)
    refine hP.get (List.mem_of_getElem? hp) ?_ hC
    cases hlj : p.2.contains j
    · rfl
    · exact (reach_ready hd hu (List.all_eq_true.1 hl j (by simpa using hlj)) hj).elim
  | .e1 k t, f, listed, a, w, hdown, hB, h => by
    simp only [treeC, Bool.and_eq_true, decide_eq_true_eq] at hB
    obtain ⟨⟨h0, hr⟩, hB'⟩ := hB
    obtain ⟨g, rfl⟩ : ∃ g, f = g + 1 := ⟨f - 1, by omega⟩
    simp only [MixX, EffX] at h
    refine ⟨fun h0 => (by rw [hr] at h0; cases h0), fun i hi => ?_⟩
    have hi' := hi
    rw [hr] at hi
    simp only [List.mem_cons, List.not_mem_nil, or_false] at hi
    subst hi
    exact wpOpIn_mono (fun a' w' h' => ⟨h'.1, h'.2.1, LCX_tree hlt hzb hnd hs t _ _ _ _ (hdown.set hi') hB' h'.2.2⟩) h
  | .e2 k t k2 t2, f, listed, a, w, hdown, hB, h => by
    simp only [treeC, Bool.and_eq_true, decide_eq_true_eq] at hB
    obtain ⟨⟨⟨h0, hr⟩, hB'⟩, hB2⟩ := hB
    obtain ⟨g, rfl⟩ : ∃ g, f = g + 1 := ⟨f - 1, by omega⟩
    simp only [MixX, EffX] at h
    refine ⟨fun h0 => (by rw [hr] at h0; cases h0), fun i hi => ?_⟩
    have hi' := hi
    rw [hr] at hi
    simp only [List.mem_cons, List.not_mem_nil, or_false] at hi
    rcases hi with rfl | rfl
    · exact wpOpIn_mono (fun a' w' h' => ⟨h'.1, h'.2.1, LCX_tree hlt hzb hnd hs t _ _ _ _ (hdown.set hi') hB' h'.2.2⟩) h.1
    · exact wpOpIn_mono (fun a' w' h' => ⟨h'.1, h'.2.1, LCX_tree hlt hzb hnd hs t2 _ _ _ _ (hdown.set hi') hB2 h'.2.2⟩) h.2
  | .e3 k t k2 t2 k3 t3, f, listed, a, w, hdown, hB, h => by
    simp only [treeC, Bool.and_eq_true, decide_eq_true_eq] at hB
    obtain ⟨⟨⟨⟨h0, hr⟩, hB'⟩, hB2⟩, hB3⟩ := hB
    obtain ⟨g, rfl⟩ : ∃ g, f = g + 1 := ⟨f - 1, by omega⟩
    simp only [MixX, EffX] at h
    refine ⟨fun h0 => (by rw [hr] at h0; cases h0), fun i hi => ?_⟩
    have hi' := hi
    rw [hr] at hi
    simp only [List.mem_cons, List.not_mem_nil, or_false] at hi
    rcases hi with rfl | rfl | rfl
    · exact wpOpIn_mono (fun a' w' h' => ⟨h'.1, h'.2.1, LCX_tree hlt hzb hnd hs t _ _ _ _ (hdown.set hi') hB' h'.2.2⟩) h.1
    · exact wpOpIn_mono (fun a' w' h' => ⟨h'.1, h'.2.1, LCX_tree hlt hzb hnd hs t2 _ _ _ _ (hdown.set hi') hB2 h'.2.2⟩) h.2.1
    · exact wpOpIn_mono (fun a' w' h' => ⟨h'.1, h'.2.1, LCX_tree hlt hzb hnd hs t3 _ _ _ _ (hdown.set hi') hB3 h'.2.2⟩) h.2.2
end
theorem Fr.away {n : Nat} {ds : List Deferred} {L : List (Nat × Value)} {a : Act} {d : Option Nat} {u : Value} (h : Fr n ds L (a.put d u)) (hd : ∀ t, d = some t → lk L t = none) : Fr n ds L a := by
  cases d with
  | none => exact ⟨h.size, h.defers, h.get⟩
  | some t =>
    have h1 := h.size
    refine ⟨by simpa [Act.put] using h1, h.defers, fun s v hs => ?_⟩
    have hne : t ≠ s := fun e => by subst e; rw [hd t rfl] at hs; cases hs
    have := h.get s v hs
    rw [Array.getD_eq_getD_getElem?] at this ⊢
    simp only [Act.put] at this
    rwa [Array.getElem?_setIfInBounds_ne hne] at this
def awayB (L : List (Nat × Value)) (ops : Array Oper) : Bool := ops.toList.all fun o => match o.dst with
  | some t => (lk L t).isNone
  | none => true
theorem awayB_get {L : List (Nat × Value)} {ops : Array Oper} (h : awayB L ops = true) {i : Nat} {o : Oper} (ho : ops[i]? = some o) : ∀ t, o.dst = some t → lk L t = none := fun t ht => by
  have h1 := List.all_eq_true.1 h o (by rw [← Array.getElem?_toList] at ho; exact List.mem_of_getElem? ho)
  rw [ht] at h1
  simpa using h1
theorem sy_treeX {P : Program} {r : Option Nat} {id : Nat} {Q : Exit → Act → World → Prop} {a : Act} {w w0 : World} {M : List Nat} {H : List (Nat × Obj)} {l : List Oper} {n : Nat} {ds : List Deferred} {L : List (Nat × Value)} (t : OC) (lates : List (List Nat)) (Cs : Cls) (X : List PanicEntry → World → Prop) (Lk : List (Nat × Value)) (hm : P.follows .mixedOrders = true)
    (hB : (noDefer l.toArray && Region.noSelect l.toArray && treeC .any l.toArray lates t l.toArray.size (Array.replicate l.toArray.size false)) = true) (hlt : Cs.map Prod.snd = lates)
    (hf : Fr n ds L a) (hk : AllIn L Lk) (haw : awayB Lk l.toArray = true)
    (hh : Hp w0 M H w) (hX : ∀ c a w, X c w → Fr n ds Lk a → Q (.panic c) a w) (h : ∀ w, Hp w0 M H w → MixX P r l.toArray Cs X (fun a => Fr n ds Lk a) (fun a w => Q .normal a w) t a w) : WP P r (.region id l.toArray true) Q a w := by
  simp only [Bool.and_eq_true] at hB
  obtain ⟨⟨h1, h2⟩, h3⟩ := hB
  exact wpIn_region_any hm (wpAny_of_LCX (Cs := Cs) (X := X) (Z := fun a => Fr n ds Lk a) (Q := fun a w => Q .normal a w) (fun _ _ h => h) hX _ _ _ _ (hf.sub hk) (LCX_tree hlt (fun i o ho a v hz => hz.away (awayB_get haw ho)) h1 h2 t _ _ a _ (Down.none _) h3 (h _ (hh.drawn (w.drawn + 1)))))
theorem sy_treeX1 {P : Program} {r : Option Nat} {id : Nat} {Q : Exit → Act → World → Prop} {a : Act} {w w0 : World} {M : List Nat} {H : List (Nat × Obj)} {l : List Oper} {n : Nat} {ds : List Deferred} {L : List (Nat × Value)} (t : OC) (late : List Nat) (X : List PanicEntry → World → Prop) (Lk : List (Nat × Value)) (hm : P.follows .mixedOrders = true)
    (hB : (noDefer l.toArray && Region.noSelect l.toArray && treeC .any l.toArray [late] t l.toArray.size (Array.replicate l.toArray.size false)) = true)
    (hf : Fr n ds L a) (hk : AllIn L Lk) (haw : awayB Lk l.toArray = true)
    (hh : Hp w0 M H w) (hX : ∀ c a w, X c w → Fr n ds Lk a → Q (.panic c) a w) (h : ∀ w, Hp w0 M H w → MixX P r l.toArray [(Hp w0 M H, late)] X (fun a => Fr n ds Lk a) (fun a w => Q .normal a w) t a w) : WP P r (.region id l.toArray true) Q a w :=
  sy_treeX t [late] [(Hp w0 M H, late)] X Lk hm hB rfl hf hk haw hh hX h
section
variable {P : Program} {r : Option Nat} {ops : Array Oper} {Cs : Cls} {X : List PanicEntry → World → Prop} {Lk : List (Nat × Value)} {Q : Act → World → Prop} {k n c : Nat} {t : OC} {ds : List Deferred} {L : List (Nat × Value)} {a : Act} {w : World} {o : Oper} {d : Nat} {v : Value} {p : (World → Prop) × List Nat}
theorem mz_p (ho : ops[k]? = some o) (hf : Fr n ds L a) (y : Yv P (fun _ => True) L o v) (hg : GOn ops L o) (hd : o.dst = some d) (hn : Nat.blt d n = true)
    (K : ∀ a, Fr n ds ((d, v) :: L) a → MixX P r ops Cs X (fun a => Fr n ds Lk a) Q t a w) (hk : AllIn ((d, v) :: L) Lk := by repeat' (first | exact True.intro | refine And.intro rfl ?_)) : MixX P r ops Cs X (fun a => Fr n ds Lk a) Q (.p k t) a w :=
  ⟨o, ho, v, .inl ⟨hg.wanted hf, fun w hw => y _ hf.agree w hw⟩, by rw [hd]; exact (hf.put (blt_lt hn) v).sub hk, by rw [hd]; exact K _ (hf.put (blt_lt hn) v)⟩
theorem mz_q (ho : ops[k]? = some o) (hc : Cs[c]? = some p) (hC : p.1 w) (hf : Fr n ds L a) (y : Yv P p.1 L o v) (hg : GOn ops L o) (hd : o.dst = some d) (hn : Nat.blt d n = true)
    (K : ∀ a, Fr n ds ((d, v) :: L) a → MixX P r ops Cs X (fun a => Fr n ds Lk a) Q t a w) (hk : AllIn ((d, v) :: L) Lk := by repeat' (first | exact True.intro | refine And.intro rfl ?_)) : MixX P r ops Cs X (fun a => Fr n ds Lk a) Q (.q c k t) a w :=
  ⟨o, p, ho, hc, hC, v, .inl ⟨hg.wanted hf, fun w hw => y _ hf.agree w hw⟩, by rw [hd]; exact (hf.put (blt_lt hn) v).sub hk, by rw [hd]; exact K _ (hf.put (blt_lt hn) v)⟩
/-- Behind an effect that may panic. -/
def QXN (K : Act → World → Prop) (X : List PanicEntry → World → Prop) : Exit → Act → World → Prop
  | .normal, a, w => K a w
  | .panic c, _, w => X c w
  | _, _, _ => False
theorem qx_n {K : Act → World → Prop} {X : List PanicEntry → World → Prop} (h : K a w) : QXN K X .normal a w := h
theorem qx_p {K : Act → World → Prop} {X : List PanicEntry → World → Prop} {ch : List PanicEntry} (h : X ch w) : QXN K X (.panic ch) a w := h
theorem mz_e {K : Act → World → Prop} (ho : ops[k]? = some o) (h : OpsW P r ops (QXN (fun a' w' => Fr n ds Lk a' ∧ Pres Cs k w w' ∧ K a' w') X) [o] a w) : EffX P r ops Cs X (fun a => Fr n ds Lk a) k K a w := by
  simp only [OpsW] at h
  unfold EffX wpOpIn
  simp only [ho]
  split
  · rename_i hw
    rw [if_pos hw] at h
    exact wpIn_qf (fun _ _ _ h => h) (fun ⟨_, _, h⟩ => h.elim) (Oper.wpIn_mono (fun _ _ h => h) h)
  · rename_i hw
    rw [if_neg hw] at h
    exact ⟨fun _ _ => trivial, h⟩
theorem mz_end (h : Q a w) : MixX P r ops Cs X (fun a => Fr n ds Lk a) Q .fin a w := h
end
end Go.Sy

