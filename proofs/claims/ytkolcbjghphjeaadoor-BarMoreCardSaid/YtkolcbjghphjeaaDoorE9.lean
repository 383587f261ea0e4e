/- Regions whose order is open, with effects: operations of one value may come at any time beside them. -/
import Derived.Test.YtkolcbjghphjeaaDoorE8
namespace Go.Sy
open Go Go.Proofs Go.RowKit
section
variable {P : Program} {r : Option Nat} {ops : Array Oper} {md : Region.Mode} {C : World → Prop}

/-- One value in all worlds of a class, and the world stays as it is. -/
def YieldsC (P : Program) (ops : Array Oper) (C : World → Prop) (o : Oper) (v : Value) (a : Act) : Prop :=
  (Region.wanted o (yielded ops a.tmps) = true ∧ ∀ w, C w → (execOp a.eval o).run P w = .ok (.value v) w) ∨ (Region.wanted o (yielded ops a.tmps) = false ∧ v = undef)
theorem YieldsC.of_same {o : Oper} {v : Value} {a a' : Act} (hy : YieldsC P ops C o v a) (he : execOp a'.eval o = execOp a.eval o)
    (hw : Region.wanted o (yielded ops a'.tmps) = Region.wanted o (yielded ops a.tmps)) : YieldsC P ops C o v a' := by
  unfold YieldsC at *; rw [he, hw]; exact hy

abbrev QF : Exit → Act → World → Prop := fun _ _ _ => False

theorem YieldsC.wpOp {i : Nat} {o : Oper} {v : Value} {a : Act} {w : World} (hd : isDefer o.op = false) (hi : ops[i]? = some o) (hy : YieldsC P ops C o v a) (hC : C w)
    {K : Act → World → Prop} (h : K (a.put o.dst v) w) : wpOpIn (FR r) 0 P ops QF i K a w := by
  unfold Go.wpOpIn
  simp only [hi]
  rcases hy with ⟨hw, hv⟩ | ⟨hw, rfl⟩
  · simp only [hw, if_true, Oper.wpIn, semAt_of hd, hv w hC, Oper.uponIn]; exact ⟨fun _ _ => trivial, h⟩
  · simp only [hw, Bool.false_eq_true, if_false]; exact ⟨fun _ _ => trivial, h⟩

theorem wpOp_putC {j : Nat} {oi oj : Oper} {v : Value} (hd : isDefer oj.op = false) (hj : ops[j]? = some oj) (hap : oi.apart ops oj = true)
    (hsi : ∀ cs b, oi.op ≠ .select cs b) (hsj : ∀ cs b, oj.op ≠ .select cs b) {K : Act → World → Prop} {a : Act} {w : World}
    (hy : YieldsC P ops C oi v a) (h : wpOpIn (FR r) 0 P ops QF j K (a.put oi.dst v) w) :
    wpOpIn (FR r) 0 P ops QF j (fun a' w' => YieldsC P ops C oi v a' ∧ K (a'.put oi.dst v) w') a w := by
  obtain ⟨h1, h2, h3⟩ := Oper.apart_spec hap
  have keep : ∀ (a : Act), YieldsC P ops C oi v a → ∀ u, YieldsC P ops C oi v (a.put oj.dst u) := fun a hy u =>
    hy.of_same (execOp_put oi hsi a oj.dst u h3) (wanted_put oi a oj.dst u h3)
  unfold wpOpIn at *
  simp only [hj] at *
  rw [wanted_put oj a oi.dst v h1] at h
  split
  · rename_i hw
    simp only [hw, if_true] at h
    unfold Oper.wpIn at *
    refine ⟨fun _ _ => trivial, ?_⟩
    have h := h.2
    rw [semAt_of hd, execOp_put oj hsj a oi.dst v h1] at h
    rw [semAt_of hd]
    generalize (execOp a.eval oj).run P w = res at *
    cases res with
    | ok x w' =>
      cases x <;> simp only [Oper.uponIn] at h ⊢
      case value u => exact ⟨keep a hy u, by rw [← Act.put_comm a v u h2]; exact h⟩
      case skip => exact ⟨keep a hy _, by rw [← Act.put_comm a v undef h2]; exact h⟩
      case defer d =>
        have hy2 : YieldsC P ops C oi v { a with defers := d :: a.defers } := hy.of_same rfl rfl
        refine ⟨keep _ hy2 _, ?_⟩
        rw [← Act.put_comm _ v undef h2, ← Act.put_defers]
        exact h
      case enter f args =>
        refine ⟨h.1, CallsIn.mono h.2 fun e w'' he => ?_⟩
        cases e with
        | returned u => exact ⟨keep a hy u, by rw [← Act.put_comm a v u h2]; exact he⟩
        | panicked c => exact he
        | outgrown => exact he
      case row row args => exact ⟨h.1, RowsIn.mono h.2 fun u w'' he => ⟨keep a hy u, by rw [← Act.put_comm a v u h2]; exact he⟩⟩
      case round l f tmps assign body =>
        refine ⟨h.1, RoundIn.mono h.2 fun e w'' he => ?_⟩
        cases e with
        | returned u => exact ⟨keep a hy u, by rw [← Act.put_comm a v u h2]; exact he⟩
        | panicked c => exact he
        | outgrown => exact he
    | halt x w' =>
      cases x <;> simp only [Oper.uponIn] at h ⊢
      case panic u => exact h.elim
  · rename_i hw
    simp only [hw] at h
    exact ⟨fun _ _ => trivial, keep a hy _, by rw [← Act.put_comm a v undef h2]; exact h.2⟩

/-- Every order, the class kept by all but the late ones. -/
def LM (P : Program) (r : Option Nat) (md : Region.Mode) (ops : Array Oper) (C : World → Prop) (late : List Nat) (Q : Act → World → Prop) : Nat → Array Bool → Act → World → Prop
  | 0, listed, a, w => Region.ready md ops listed = [] ∧ Q a w
  | f + 1, listed, a, w => (Region.ready md ops listed = [] → Q a w) ∧
      ∀ i ∈ Region.ready md ops listed, wpOpIn (FR r) 0 P ops QF i (fun a' w' => (late.contains i = false → C w') ∧ LM P r md ops C late Q f (listed.setIfInBounds i true) a' w') a w

theorem wpIn_qf {o : Oper} {a : Act} {w : World} {K : Act → World → Prop} {Q Q' : Exit → Act → World → Prop} (h1 : ∀ c a w, Q (.panic c) a w → Q' (.panic c) a w) (h2 : LetsOut Q → LetsOut Q')
    (hh : o.wpIn (FR r) 0 P a w K Q) : o.wpIn (FR r) 0 P a w K Q' := by
  unfold Oper.wpIn at *
  refine ⟨hh.1, ?_⟩
  have hh := hh.2
  generalize (o.semAt (FR r).round a.eval).run P w = res at *
  cases res with
  | ok x w' =>
    cases x <;> simp only [Oper.uponIn] at hh ⊢ <;>
      first
        | exact hh
        | exact ⟨hh.1, CallsIn.mono hh.2 (fun e w'' he => by cases e <;> first | exact he | exact h1 _ _ _ he | exact h2 he)⟩
        | exact ⟨hh.1, RoundIn.mono hh.2 (fun e w'' he => by cases e <;> first | exact he | exact h1 _ _ _ he | exact h2 he)⟩
  | halt x w' => cases x <;> simp only [Oper.uponIn] at hh ⊢ <;> exact h1 _ _ _ hh

theorem wpOp_qf {i : Nat} {a : Act} {w : World} {K : Act → World → Prop} {Q Q' : Exit → Act → World → Prop} (h1 : ∀ c a w, Q (.panic c) a w → Q' (.panic c) a w) (h2 : LetsOut Q → LetsOut Q')
    (hh : wpOpIn (FR r) 0 P ops Q i K a w) : wpOpIn (FR r) 0 P ops Q' i K a w := by
  unfold wpOpIn at *
  split
  · rename_i ho; simp only [ho] at hh; exact hh
  · rename_i o ho
    simp only [ho] at hh
    split
    · rename_i hw; simp only [hw, if_true] at hh; exact wpIn_qf h1 h2 hh
    · rename_i hw; simp only [hw] at hh; exact hh

theorem wpAny_of_LM {late : List Nat} {Q : Act → World → Prop} {Q' : Exit → Act → World → Prop} (hQ : ∀ a w, Q a w → Q' .normal a w) :
    ∀ (f : Nat) (listed : Array Bool) (a : Act) (w : World), LM P r md ops C late Q f listed a w → wpAnyIn (FR r) 0 P md ops Q' f listed a w
  | 0, _, _, _, h => ⟨h.1, hQ _ _ h.2⟩
  | f + 1, listed, a, w, h => ⟨fun h0 => hQ _ _ (h.1 h0), fun i hi => wpOp_qf (fun _ _ _ h => h.elim) (fun ⟨_, _, h⟩ => h.elim) (wpOpIn_mono (fun a' w' h' => wpAny_of_LM hQ f _ a' w' h'.2) (h.2 i hi))⟩

/-- Does an operation wait, be it through others, for another? -/
def reach (md : Region.Mode) (ops : Array Oper) : Nat → Nat → Nat → Bool
  | 0, _, _ => false
  | f + 1, q, j => match ops[j]? with
    | some o => o.after.toList.any fun e => Region.binds md e && (e.on == q || reach md ops f q e.on)
    | none => false
def Down (md : Region.Mode) (ops : Array Oper) (listed : Array Bool) : Prop := ∀ j oj, ops[j]? = some oj → listed.getD j false = true → ∀ e ∈ oj.after, Region.binds md e = true → listed.getD e.on false = true
theorem Down.none (m : Nat) : Down md ops (Array.replicate m false) := fun j oj _ h => by rw [getD_replicate_false] at h; cases h
theorem Down.set {listed : Array Bool} (h : Down md ops listed) {k : Nat} (hk : k ∈ Region.ready md ops listed) : Down md ops (listed.setIfInBounds k true) := fun j oj hj hl e he hb => by
  refine getD_set_true ?_
  by_cases hjk : k = j
  · subst hjk
    obtain ⟨_, o, ho, hall⟩ := mem_ready.1 hk
    rw [hj] at ho; cases ho
    exact hall e he hb
  · rw [getD_set_ne false hjk] at hl
    exact h j oj hj hl e he hb
theorem reach_listed {listed : Array Bool} (h : Down md ops listed) {q : Nat} (hq : listed.getD q true = false) : ∀ (f j : Nat), reach md ops f q j = true → listed.getD j false = true → False
  | 0, j, hr, _ => by simp [reach] at hr
  | f + 1, j, hr, hl => by
    unfold reach at hr
    split at hr
    · rename_i o ho
      simp only [List.any_eq_true, Bool.and_eq_true, Bool.or_eq_true, beq_iff_eq] at hr
      obtain ⟨e, he, hb, hon⟩ := hr
      have h1 := h j o ho hl e (Array.mem_toList_iff.1 he) hb
      rcases hon with hon | hon
      · rw [hon] at h1
        rcases Nat.lt_or_ge q listed.size with h' | h'
        · simp [h'] at hq h1; rw [hq] at h1; cases h1
        · simp [Array.getElem?_eq_none h'] at h1
      · exact reach_listed h hq f e.on hon h1
    · cases hr
theorem reach_ready {listed : Array Bool} (h : Down md ops listed) {q : Nat} (hq : listed.getD q true = false) {f j : Nat} (hr : reach md ops f q j = true) (hj : j ∈ Region.ready md ops listed) : False := by
  cases f with
  | zero => simp [reach] at hr
  | succ f =>
    obtain ⟨_, o, ho, hall⟩ := mem_ready.1 hj
    unfold reach at hr
    rw [ho] at hr
    simp only [List.any_eq_true, Bool.and_eq_true, Bool.or_eq_true, beq_iff_eq] at hr
    obtain ⟨e, he, hb, hon⟩ := hr
    have h1 := hall e (Array.mem_toList_iff.1 he) hb
    rcases hon with hon | hon
    · rw [hon] at h1
      rcases Nat.lt_or_ge q listed.size with h' | h'
      · simp [h'] at hq h1; rw [hq] at h1; cases h1
      · simp [Array.getElem?_eq_none h'] at h1
    · exact reach_listed h hq f e.on hon h1

theorem LM_first {late : List Nat} {Q : Act → World → Prop} {i : Nat} {oi : Oper} {v : Value} (hnd : noDefer ops = true) (hi : ops[i]? = some oi) (hsel : ∀ (j : Nat) (o : Oper) cs b, ops[j]? = some o → o.op ≠ .select cs b)
    (hlate : ∀ j, late.contains j = true → reach md ops 20 i j = true) :
    ∀ (fuel : Nat) (listed : Array Bool) (a : Act) (w : World), C w → Down md ops listed →
      (∀ j oj, ops[j]? = some oj → j ≠ i → listed.getD j true = false → (∀ e ∈ oj.after, Region.binds md e = true → e.on ≠ i) → oi.apart ops oj = true) →
      i ∈ Region.ready md ops listed → YieldsC P ops C oi v a →
      LM P r md ops C late Q fuel (listed.setIfInBounds i true) (a.put oi.dst v) w → LM P r md ops C late Q (fuel + 1) listed a w := by
  intro fuel
  induction fuel with
  | zero =>
    intro listed a w hC _ _ hr hy H
    refine ⟨fun h => (by rw [h] at hr; cases hr), fun j hj => ?_⟩
    by_cases hji : j = i
    · subst hji; exact hy.wpOp (noDefer_get hnd hi) hi hC ⟨fun _ => hC, H⟩
    · have := ready_mono hj hji
      rw [H.1] at this
      cases this
  | succ fuel ih =>
    intro listed a w hC hdown hfree hr hy H
    refine ⟨fun h => (by rw [h] at hr; cases hr), fun j hj => ?_⟩
    by_cases hji : j = i
    · subst hji; exact hy.wpOp (noDefer_get hnd hi) hi hC ⟨fun _ => hC, H⟩
    · have h1 := H.2 j (ready_mono hj hji)
      obtain ⟨hjun, oj, hoj, hall⟩ := mem_ready.1 hj
      have hnot : ∀ e ∈ oj.after, Region.binds md e = true → e.on ≠ i := fun e he hb heq => by
        have h1 := hall e he hb
        have h0 := (mem_ready.1 hr).1
        rw [heq] at h1
        rcases Nat.lt_or_ge i listed.size with h' | h'
        · simp [h'] at h0 h1; rw [h0] at h1; cases h1
        · simp [Array.getElem?_eq_none h'] at h1
      have hjl : late.contains j = false := by
        cases hl : late.contains j
        · rfl
        · exact (reach_ready hdown (mem_ready.1 hr).1 (hlate j hl) hj).elim
      have h2 := wpOp_putC (noDefer_get hnd hoj) hoj (hfree j oj hoj hji hjun hnot) (fun cs b => hsel i oi cs b hi) (fun cs b => hsel j oj cs b hoj) hy h1
      have hfree' : ∀ k ok, ops[k]? = some ok → k ≠ i → (listed.setIfInBounds j true).getD k true = false →
          (∀ e ∈ ok.after, Region.binds md e = true → e.on ≠ i) → oi.apart ops ok = true := fun k ok hk hki hun hno => by
        refine hfree k ok hk hki ?_ hno
        by_cases hjk : j = k
        · subst hjk; exact hjun
        · rw [getD_set_ne true hjk] at hun; exact hun
      refine wpOpIn_mono (fun a' w' h3 => ⟨fun _ => h3.2.1 hjl, ih (listed.setIfInBounds j true) a' w' (h3.2.1 hjl) (hdown.set hj) hfree' (ready_mono hr (Ne.symm hji)) h3.1 ?_⟩) h2
      rw [Array.setIfInBounds_comm _ _ hji]
      exact h3.2.2

/-- The walk: quiet operations as early as they can come; each effect the only one that may. -/
def MixW (P : Program) (r : Option Nat) (ops : Array Oper) (C : World → Prop) (qs late : List Nat) (Q : Act → World → Prop) : List Nat → Act → World → Prop
  | [], a, w => Q a w
  | k :: l, a, w => ∃ o, ops[k]? = some o ∧
      ((qs.contains k = true ∧ C w ∧ ∃ v, YieldsC P ops C o v a ∧ MixW P r ops C qs late Q l (a.put o.dst v) w) ∨
       (qs.contains k = false ∧ wpOpIn (FR r) 0 P ops QF k (fun a' w' => (late.contains k = false → C w') ∧ MixW P r ops C qs late Q l a' w') a w))
def mixB (md : Region.Mode) (ops : Array Oper) (qs : List Nat) : List Nat → Array Bool → Bool
  | [], listed => (Region.ready md ops listed).isEmpty
  | k :: l, listed => (if qs.contains k then (Region.ready md ops listed).contains k && Region.free md ops listed k else decide (Region.ready md ops listed = [k])) && mixB md ops qs l (listed.setIfInBounds k true)
def lateB (md : Region.Mode) (ops : Array Oper) (qs late : List Nat) : Bool := late.all fun j => qs.all fun q => reach md ops 20 q j
theorem LM_mix {qs late : List Nat} {Q : Act → World → Prop} (hnd : noDefer ops = true) (hs : Region.noSelect ops = true) (hl : lateB md ops qs late = true) :
    ∀ (l : List Nat) (listed : Array Bool) (a : Act) (w : World), Down md ops listed → mixB md ops qs l listed = true → MixW P r ops C qs late Q l a w → LM P r md ops C late Q l.length listed a w
  | [], listed, a, w, _, hB, h => ⟨by simpa [mixB] using hB, h⟩
  | k :: l, listed, a, w, hdown, hB, ⟨o, ho, h⟩ => by
    simp only [mixB, Bool.and_eq_true] at hB
    rcases h with ⟨hq, hC, v, hy, h⟩ | ⟨hq, h⟩
    · rw [if_pos hq, Bool.and_eq_true] at hB
      obtain ⟨⟨hr, hf⟩, hB'⟩ := hB
      have hr' : k ∈ Region.ready md ops listed := by simpa using hr
      refine LM_first hnd ho (Region.noSelect_spec hs) (fun j hj => ?_) l.length listed a w hC hdown (Region.free_spec ho hf) hr' hy (LM_mix hnd hs hl l _ _ _ (hdown.set hr') hB' h)
      have h1 := List.all_eq_true.1 hl j (by simpa using hj)
      exact List.all_eq_true.1 h1 k (by simpa using hq)
    · rw [if_neg (by rw [hq]; simp), decide_eq_true_eq] at hB
      obtain ⟨hr, hB'⟩ := hB
      refine ⟨fun h0 => (by rw [hr] at h0; cases h0), fun i hi => ?_⟩
      rw [hr] at hi
      have : i = k := by simpa using hi
      subst this
      have hi' : i ∈ Region.ready md ops listed := by rw [hr]; simp
      exact wpOpIn_mono (fun a' w' h' => ⟨h'.1, LM_mix hnd hs hl l _ _ _ (hdown.set hi') hB' h'.2⟩) h

theorem sy_mix {id : Nat} {Q : Exit → Act → World → Prop} {a : Act} {w w0 : World} {M : List Nat} {H : List (Nat × Obj)} {l : List Oper} (ord qs late : List Nat) (hm : P.follows .mixedOrders = true)
    (hB : (noDefer l.toArray && Region.noSelect l.toArray && lateB .any l.toArray qs late && mixB .any l.toArray qs ord (Array.replicate l.toArray.size false) && decide (ord.length = l.toArray.size)) = true)
    (hh : Hp w0 M H w) (h : ∀ w, Hp w0 M H w → MixW P r l.toArray C qs late (fun a w => Q .normal a w) ord a w) : WP P r (.region id l.toArray true) Q a w := by
  simp only [Bool.and_eq_true, decide_eq_true_eq] at hB
  obtain ⟨⟨⟨⟨h1, h2⟩, h3⟩, h4⟩, h5⟩ := hB
  refine wpIn_region_any hm (wpAny_of_LM (C := C) (late := late) (Q := fun a w => Q .normal a w) (fun _ _ h => h) _ _ _ _ ?_)
  have h6 := LM_mix h1 h2 h3 ord _ a _ (Down.none _) h4 (h _ (hh.drawn (w.drawn + 1)))
  rw [h5] at h6
  exact h6
theorem sy_mixH {id : Nat} {Q : Exit → Act → World → Prop} {a : Act} {w w0 : World} {M : List Nat} {H : List (Nat × Obj)} {l : List Oper} (ord qs late : List Nat) (hm : P.follows .mixedOrders = true)
    (hB : (noDefer l.toArray && Region.noSelect l.toArray && lateB .any l.toArray qs late && mixB .any l.toArray qs ord (Array.replicate l.toArray.size false) && decide (ord.length = l.toArray.size)) = true)
    (hh : Hp w0 M H w) (h : ∀ w, Hp w0 M H w → MixW P r l.toArray (Hp w0 M H) qs late (fun a w => Q .normal a w) ord a w) : WP P r (.region id l.toArray true) Q a w := sy_mix ord qs late hm hB hh h
end

section
variable {P : Program} {r : Option Nat} {ops : Array Oper} {C : World → Prop} {qs late : List Nat} {Q : Act → World → Prop} {k n : Nat} {l : List Nat} {ds : List Deferred} {L : List (Nat × Value)} {a : Act} {w : World} {o : Oper} {d : Nat} {v : Value}
theorem mx_v (ho : ops[k]? = some o) (hq : qs.contains k = true) (hC : C w) (hf : Fr n ds L a) (y : Yv P C L o v) (hg : GOn ops L o) (hd : o.dst = some d) (hn : Nat.blt d n = true)
    (K : ∀ a, Fr n ds ((d, v) :: L) a → MixW P r ops C qs late Q l a w) : MixW P r ops C qs late Q (k :: l) a w :=
  ⟨o, ho, .inl ⟨hq, hC, v, .inl ⟨hg.wanted hf, fun w hw => y _ hf.agree w hw⟩, by rw [hd]; exact K _ (hf.put (blt_lt hn) v)⟩⟩
theorem mx_e (ho : ops[k]? = some o) (hq : qs.contains k = false) (h : ∀ Q', OpsW P r ops (Exit.then (fun a' w' => (late.contains k = false → C w') ∧ MixW P r ops C qs late Q l a' w') Q') [o] a w) : MixW P r ops C qs late Q (k :: l) a w := by
  refine ⟨o, ho, .inr ⟨hq, ?_⟩⟩
  have h := h QF
  simp only [OpsW] at h
  unfold wpOpIn
  simp only [ho]
  split
  · rename_i hw
    rw [if_pos hw] at h
    exact wpIn_qf (fun _ _ _ h => h) (fun ⟨_, _, h⟩ => ⟨a, w, h⟩) (Oper.wpIn_mono (fun _ _ h => h) h)
  · rename_i hw
    rw [if_neg hw] at h
    exact ⟨fun _ _ => trivial, h⟩
theorem mx_end (h : Q a w) : MixW P r ops C qs late Q [] a w := h
end
end Go.Sy
