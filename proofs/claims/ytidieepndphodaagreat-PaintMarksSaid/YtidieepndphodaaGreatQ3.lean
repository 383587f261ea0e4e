/- Lemmas, in order: Regions whose order is open, with several effects that may come: a tree of orders. Memo maps whose keys are structs of three integers. An element of an array that is a value; blocks that hold a grid of integers.. -/
import Derived.Test.YtidieepndphodaaGreatQ2
namespace Go.Sy
open Go Go.Proofs Go.RowKit
/-- Orders: an operation of one value that is taken first; one, two or three effects that may come. -/
inductive OT where
  | fin
  | q (k : Nat) (t : OT)
  | e1 (k : Nat) (t : OT)
  | e2 (k : Nat) (t : OT) (k2 : Nat) (t2 : OT)
  | e3 (k : Nat) (t : OT) (k2 : Nat) (t2 : OT) (k3 : Nat) (t3 : OT)
section
variable {P : Program} {r : Option Nat} {ops : Array Oper} {md : Region.Mode} {C : World → Prop} {late : List Nat} {Q : Act → World → Prop}
def EffT (P : Program) (r : Option Nat) (ops : Array Oper) (C : World → Prop) (late : List Nat) (k : Nat) (K : Act → World → Prop) (a : Act) (w : World) : Prop :=
  wpOpIn (FR r) 0 P ops QF k (fun a' w' => (late.contains k = false → C w') ∧ K a' w') a w
def MixT (P : Program) (r : Option Nat) (ops : Array Oper) (C : World → Prop) (late : List Nat) (Q : Act → World → Prop) : OT → Act → World → Prop
  | .fin, a, w => Q a w
  | .q k t, a, w => ∃ o, ops[k]? = some o ∧ C w ∧ ∃ v, YieldsC P ops C o v a ∧ MixT P r ops C late Q t (a.put o.dst v) w
  | .e1 k t, a, w => EffT P r ops C late k (MixT P r ops C late Q t) a w
  | .e2 k t k2 t2, a, w => EffT P r ops C late k (MixT P r ops C late Q t) a w ∧ EffT P r ops C late k2 (MixT P r ops C late Q t2) a w
  | .e3 k t k2 t2 k3 t3, a, w => EffT P r ops C late k (MixT P r ops C late Q t) a w ∧ EffT P r ops C late k2 (MixT P r ops C late Q t2) a w ∧ EffT P r ops C late k3 (MixT P r ops C late Q t3) a w
def treeB (md : Region.Mode) (ops : Array Oper) (late : List Nat) : OT → Nat → Array Bool → Bool
  | .fin, f, listed => decide (f = 0) && (Region.ready md ops listed).isEmpty
  | .q k t, f, listed => decide (0 < f) && (Region.ready md ops listed).contains k && Region.free md ops listed k && (late.all fun j => reach md ops 20 k j) && treeB md ops late t (f - 1) (listed.setIfInBounds k true)
  | .e1 k t, f, listed => decide (0 < f) && decide (Region.ready md ops listed = [k]) && treeB md ops late t (f - 1) (listed.setIfInBounds k true)
  | .e2 k t k2 t2, f, listed => decide (0 < f) && decide (Region.ready md ops listed = [k, k2]) && treeB md ops late t (f - 1) (listed.setIfInBounds k true) && treeB md ops late t2 (f - 1) (listed.setIfInBounds k2 true)
  | .e3 k t k2 t2 k3 t3, f, listed => decide (0 < f) && decide (Region.ready md ops listed = [k, k2, k3]) && treeB md ops late t (f - 1) (listed.setIfInBounds k true) && treeB md ops late t2 (f - 1) (listed.setIfInBounds k2 true) && treeB md ops late t3 (f - 1) (listed.setIfInBounds k3 true)
theorem LM_tree (hnd : noDefer ops = true) (hs : Region.noSelect ops = true) :
    ∀ (t : OT) (f : Nat) (listed : Array Bool) (a : Act) (w : World), Down md ops listed → treeB md ops late t f listed = true → MixT P r ops C late Q t a w → LM P r md ops C late Q f listed a w
  | .fin, f, listed, a, w, _, hB, h => by
    simp only [treeB, Bool.and_eq_true, decide_eq_true_eq] at hB
    obtain ⟨rfl, hB⟩ := hB
    exact ⟨by simpa using hB, h⟩
  | .q k t, f, listed, a, w, hdown, hB, h => by
    simp only [treeB, Bool.and_eq_true, decide_eq_true_eq] at hB
    obtain ⟨⟨⟨⟨h0, hr⟩, hf⟩, hl⟩, hB'⟩ := hB
    obtain ⟨g, rfl⟩ : ∃ g, f = g + 1 := ⟨f - 1, by omega⟩
    obtain ⟨o, ho, hC, v, hy, h⟩ := h
    have hr' : k ∈ Region.ready md ops listed := by simpa using hr
    refine LM_first hnd ho (Region.noSelect_spec hs) (fun j hj => List.all_eq_true.1 hl j (by simpa using hj)) g listed a w hC hdown (Region.free_spec ho hf) hr' hy (LM_tree hnd hs t _ _ _ _ (hdown.set hr') hB' h)
  | .e1 k t, f, listed, a, w, hdown, hB, h => by
    simp only [treeB, Bool.and_eq_true, decide_eq_true_eq] at hB
    obtain ⟨⟨h0, hr⟩, hB'⟩ := hB
    obtain ⟨g, rfl⟩ : ∃ g, f = g + 1 := ⟨f - 1, by omega⟩
    simp only [MixT, EffT] at h
    refine ⟨fun h0 => (by rw [hr] at h0; cases h0), fun i hi => ?_⟩
    have hi' := hi
    rw [hr] at hi
    simp only [List.mem_cons, List.not_mem_nil, or_false] at hi
    subst hi
    exact wpOpIn_mono (fun a' w' h' => ⟨h'.1, LM_tree hnd hs t _ _ _ _ (hdown.set hi') hB' h'.2⟩) h
  | .e2 k t k2 t2, f, listed, a, w, hdown, hB, h => by
    simp only [treeB, Bool.and_eq_true, decide_eq_true_eq] at hB
    obtain ⟨⟨⟨h0, hr⟩, hB'⟩, hB2⟩ := hB
    obtain ⟨g, rfl⟩ : ∃ g, f = g + 1 := ⟨f - 1, by omega⟩
    simp only [MixT, EffT] at h
    refine ⟨fun h0 => (by rw [hr] at h0; cases h0), fun i hi => ?_⟩
    have hi' := hi
    rw [hr] at hi
    simp only [List.mem_cons, List.not_mem_nil, or_false] at hi
    rcases hi with rfl | rfl
    · exact wpOpIn_mono (fun a' w' h' => ⟨h'.1, LM_tree hnd hs t _ _ _ _ (hdown.set hi') hB' h'.2⟩) h.1
    · exact wpOpIn_mono (fun a' w' h' => ⟨h'.1, LM_tree hnd hs t2 _ _ _ _ (hdown.set hi') hB2 h'.2⟩) h.2
  | .e3 k t k2 t2 k3 t3, f, listed, a, w, hdown, hB, h => by
    simp only [treeB, Bool.and_eq_true, decide_eq_true_eq] at hB
    obtain ⟨⟨⟨⟨h0, hr⟩, hB'⟩, hB2⟩, hB3⟩ := hB
    obtain ⟨g, rfl⟩ : ∃ g, f = g + 1 := ⟨f - 1, by omega⟩
    simp only [MixT, EffT] at h
    refine ⟨fun h0 => (by rw [hr] at h0; cases h0), fun i hi => ?_⟩
    have hi' := hi
    rw [hr] at hi
    simp only [List.mem_cons, List.not_mem_nil, or_false] at hi
    rcases hi with rfl | rfl | rfl
    · exact wpOpIn_mono (fun a' w' h' => ⟨h'.1, LM_tree hnd hs t _ _ _ _ (hdown.set hi') hB' h'.2⟩) h.1
    · exact wpOpIn_mono (fun a' w' h' => ⟨h'.1, LM_tree hnd hs t2 _ _ _ _ (hdown.set hi') hB2 h'.2⟩) h.2.1
    · exact wpOpIn_mono (fun a' w' h' => ⟨h'.1, LM_tree hnd hs t3 _ _ _ _ (hdown.set hi') hB3 h'.2⟩) h.2.2
end
theorem sy_tree {P : Program} {r : Option Nat} {id : Nat} {Q : Exit → Act → World → Prop} {a : Act} {w w0 : World} {M : List Nat} {H : List (Nat × Obj)} {l : List Oper} (t : OT) (late : List Nat) (hm : P.follows .mixedOrders = true)
    (hB : (noDefer l.toArray && Region.noSelect l.toArray && treeB .any l.toArray late t l.toArray.size (Array.replicate l.toArray.size false)) = true)
    (hh : Hp w0 M H w) (h : ∀ w, Hp w0 M H w → MixT P r l.toArray (Hp w0 M H) late (fun a w => Q .normal a w) t a w) : WP P r (.region id l.toArray true) Q a w := by
  simp only [Bool.and_eq_true] at hB
  obtain ⟨⟨h1, h2⟩, h3⟩ := hB
  exact wpIn_region_any hm (wpAny_of_LM (C := Hp w0 M H) (late := late) (Q := fun a w => Q .normal a w) (fun _ _ h => h) _ _ _ _ (LM_tree h1 h2 t _ _ a _ (Down.none _) h3 (h _ (hh.drawn (w.drawn + 1)))))
section
variable {P : Program} {r : Option Nat} {ops : Array Oper} {C : World → Prop} {late : List Nat} {Q : Act → World → Prop} {k n : Nat} {t : OT} {ds : List Deferred} {L : List (Nat × Value)} {a : Act} {w : World} {o : Oper} {d : Nat} {v : Value}
theorem mt_v (ho : ops[k]? = some o) (hC : C w) (hf : Fr n ds L a) (y : Yv P C L o v) (hg : GOn ops L o) (hd : o.dst = some d) (hn : Nat.blt d n = true)
    (K : ∀ a, Fr n ds ((d, v) :: L) a → MixT P r ops C late Q t a w) : MixT P r ops C late Q (.q k t) a w :=
  ⟨o, ho, hC, v, .inl ⟨hg.wanted hf, fun w hw => y _ hf.agree w hw⟩, by rw [hd]; exact K _ (hf.put (blt_lt hn) v)⟩
theorem mt_e {K : Act → World → Prop} (ho : ops[k]? = some o) (h : ∀ Q', OpsW P r ops (Exit.then (fun a' w' => (late.contains k = false → C w') ∧ K a' w') Q') [o] a w) : EffT P r ops C late k K a w := by
  have h := h QF
  simp only [OpsW] at h
  unfold EffT wpOpIn
  simp only [ho]
  split
  · rename_i hw
    rw [if_pos hw] at h
    exact wpIn_qf (fun _ _ _ h => h) (fun ⟨_, _, h⟩ => ⟨a, w, h⟩) (Oper.wpIn_mono (fun _ _ h => h) h)
  · rename_i hw
    rw [if_neg hw] at h
    exact ⟨fun _ _ => trivial, h⟩
theorem mt_end (h : Q a w) : MixT P r ops C late Q .fin a w := h
end
end Go.Sy
namespace Go.Sy
open Go Go.Proofs
/-- Keys of a map that can be compared. -/
structure KeyOk (P : Program) (ke : TypeId) {κ : Type} [DecidableEq κ] (enc : κ → Value) : Prop where
  eq : ∀ p q w, (Op.equal ke (enc p) (enc q)).run P w = .ok (decide (p = q)) w
  chk : ∀ b p w, (Instr.checkKey b 10000 ke (enc p)).run P w = .ok () w
  kind : ∃ td, P.underlying ke = some td ∧ ∀ p q, Instr.sameNow td (enc p) (enc q) = none
  bits : ∀ p, Instr.sameBits 10000 (enc p) (enc p) = true
abbrev enc3 (p : Int × Int × Int) : Value := .agg #[.int .i64 p.1, .int .i64 p.2.1, .int .i64 p.2.2]
section
variable {P : Program}
theorem run_chkF {f : Field} {xs : Array Value} {k : IntKind} {p : Int} (hi : eq3B.intB P f.type = true) (hx : xs[f.offset]? = some (.int k p)) (w : World) :
    (part f.type xs f.offset).run P w = .ok (.int k p) w ∧ ∀ b m, (Instr.checkKey b (m + 1) f.type (.int k p)).run P w = .ok () w := by
  obtain ⟨j, hj⟩ := intB_ex hi
  have hs : scalB P f.type = true := by unfold scalB; rw [hj]
  exact ⟨by simp [part, run_isAgg_scal hs, hx], fun b m => by simp [Instr.checkKey, run_underlying hj]⟩
theorem key3 {t : TypeId} (ht : eq3B P t = true) : KeyOk P t enc3 := by
  unfold eq3B at ht
  split at ht
  · rename_i fs hfs
    split at ht
    · rename_i f g h hl
      simp at ht
      obtain ⟨⟨⟨⟨⟨⟨n1, n2, n3, o1, o2, o3⟩, i1⟩, i2⟩, i3⟩, hst⟩, hgd⟩ := ht
      have hfo : P.fieldsOf t = fs := by unfold Program.fieldsOf; rw [hfs]
      have hfs' : fs = #[f, g, h] := by rw [← Array.toArray_toList (xs := fs), hl]
      refine ⟨fun p q w => ?_, fun b p w => ?_, ⟨_, hfs, fun p q => rfl⟩, fun p => ?_⟩
      · have e3 := run_equalIn_struct (P := P) w 9999 t #[.int .i64 p.1, .int .i64 p.2.1, .int .i64 p.2.2] #[.int .i64 q.1, .int .i64 q.2.1, .int .i64 q.2.2] (by rw [hfo]; exact hfs) hst
        rw [hfo, hl] at e3
        rw [show (9999 : Nat) = 9998 + 1 from rfl, run_eqF 9998 f _ _ _ .i64 p.1 q.1 w n1 i1 (by rw [o1]; rfl) (by rw [o1]; rfl), run_eqF 9998 g _ _ _ .i64 p.2.1 q.2.1 w n2 i2 (by rw [o2]; rfl) (by rw [o2]; rfl), run_eqF 9998 h _ _ _ .i64 p.2.2 q.2.2 w n3 i3 (by rw [o3]; rfl) (by rw [o3]; rfl)] at e3
        show (Op.equalIn 10000 t _ _).run P w = _
        rw [show (10000 : Nat) = 9998 + 1 + 1 from rfl, e3]
        obtain ⟨p1, p2, p3⟩ := p
        obtain ⟨q1, q2, q3⟩ := q
        simp only [Op.eqFields]
        by_cases h1 : p1 = q1 <;> by_cases h2 : p2 = q2 <;> by_cases h3 : p3 = q3 <;> simp [h1, h2, h3]
      · obtain ⟨a1, b1⟩ := run_chkF (P := P) (f := f) (xs := #[.int .i64 p.1, .int .i64 p.2.1, .int .i64 p.2.2]) i1 (by rw [o1]; rfl) w
        obtain ⟨a2, b2⟩ := run_chkF (P := P) (f := g) (xs := #[.int .i64 p.1, .int .i64 p.2.1, .int .i64 p.2.2]) i2 (by rw [o2]; rfl) w
        obtain ⟨a3, b3⟩ := run_chkF (P := P) (f := h) (xs := #[.int .i64 p.1, .int .i64 p.2.1, .int .i64 p.2.2]) i3 (by rw [o3]; rfl) w
        have key : ∀ m : Nat, (Instr.checkKey b (m + 1 + 1) t (enc3 p)).run P w = .ok () w := fun m => by
          have b1 := b1 b m
          have b2 := b2 b m
          have b3 := b3 b m
          unfold Instr.checkKey
          simp only [Sem.run_bind, run_underlying hfs, Result.andThen_ok]
          rw [hfs']
          simp [n1, n2, n3, a1, a2, a3, b1, b2, b3]
        exact key 9998
      · obtain ⟨p1, p2, p3⟩ := p
        have e : ∀ (m : Nat) (x : Int), Instr.sameBits m (.int .i64 x) (.int .i64 x) = true := fun m x => by cases m <;> simp [Instr.sameBits]
        show Instr.sameBits (9999 + 1) _ _ = true
        simp only [Instr.sameBits, List.zip_cons_cons, List.zip_nil_right, List.all_cons, List.all_nil, e, beq_self_eq_true, Bool.and_self]
    · simp at ht
  · simp at ht
end
/-- Each entry of a map is what it should be. -/
def MemoK {κ : Type} (enc : κ → Value) (k' : IntKind) (F : κ → Int) (es : Array MapEntry) : Prop := ∀ e ∈ es.toList, ∃ p, e.key = enc p ∧ e.val = .int k' (F p)
theorem MemoK.nil {κ : Type} (enc : κ → Value) (k' : IntKind) (F : κ → Int) : MemoK enc k' F #[] := fun e h => by simp at h
section
variable {P : Program} {κ : Type} [DecidableEq κ] {enc : κ → Value} {ke : TypeId} {k' : IntKind} {F : κ → Int}
theorem ask_memo (hk : KeyOk P ke enc) (p : κ) (w : World) : ∀ (l : List MapEntry) (i : Nat), (∀ e ∈ l, ∃ q, e.key = enc q ∧ e.val = .int k' (F q)) →
    (∃ j, (Instr.findAsking ke (enc p) l i).run P w = .ok (some (j, .int k' (F p))) w ∧ ∃ e, l[j - i]? = some e ∧ i ≤ j ∧ e.key = enc p) ∨ (Instr.findAsking ke (enc p) l i).run P w = .ok none w
  | [], i, _ => .inr rfl
  | e :: l, i, h => by
    obtain ⟨q, hq, hv⟩ := h e (by simp)
    have h0 := hk.eq p q w
    by_cases hpq : p = q
    · subst hpq
      exact .inl ⟨i, by simp [Instr.findAsking, hq, h0, hv], e, by simp, Nat.le_refl _, hq⟩
    · rcases ask_memo hk p w l (i + 1) (fun e he => h e (by simp [he])) with ⟨j, h2, e', h3, h4, h5⟩ | h2
      · refine .inl ⟨j, by simp [Instr.findAsking, hq, h0, hpq, h2], e', ?_, by omega, h5⟩
        rw [show j - i = (j - (i + 1)) + 1 by omega]; simpa using h3
      · exact .inr (by simp [Instr.findAsking, hq, h0, hpq, h2])
theorem find_memo (hk : KeyOk P ke enc) (p : κ) (w : World) {es : Array MapEntry} (hm : MemoK enc k' F es) :
    (∃ j, (Instr.findKey ke (enc p) es.toList).run P w = .ok (some (j, .int k' (F p))) w ∧ ∃ e, es[j]? = some e ∧ e.key = enc p) ∨ (Instr.findKey ke (enc p) es.toList).run P w = .ok none w := by
  obtain ⟨td, h1, h2⟩ := hk.kind
  have hn : ∀ l : List MapEntry, (∀ e ∈ l, ∃ q, e.key = enc q ∧ e.val = .int k' (F q)) → l ≠ [] → Instr.findNow td (enc p) l 0 = none := fun l hl hne => by
    cases l with
    | nil => exact absurd rfl hne
    | cons e l =>
      obtain ⟨q, hq, _⟩ := hl e (by simp)
      simp [Instr.findNow, hq, h2]
  by_cases he : es.toList = []
  · refine .inr ?_
    rw [he]
    simp [Instr.findKey, run_underlying h1, Instr.findNow]
  · rcases ask_memo hk p w es.toList 0 hm with ⟨j, h3, e, h4, _, h5⟩ | h3
    · refine .inl ⟨j, by simp [Instr.findKey, run_underlying h1, hn _ hm he, h3], e, ?_, h5⟩
      rw [Nat.sub_zero, Array.getElem?_toList] at h4; exact h4
    · exact .inr (by simp [Instr.findKey, run_underlying h1, hn _ hm he, h3])
def mapKE (P : Program) (t : TypeId) : Option (TypeId × TypeId) := match P.underlying t with
  | some (.map ke el) => some (ke, el)
  | _ => none
theorem mapKE_eq {t el : TypeId} (h : mapKE P t = some (ke, el)) : P.underlying t = some (.map ke el) := by
  unfold mapKE at h
  split at h
  · simp at h; obtain ⟨rfl, rfl⟩ := h; assumption
  · simp at h
variable {C : World → Prop} {L : List (Nat × Value)} {dd : Option Tmp} {ty : TypeId} {pos : String} {af : Array Edge} {gd : Option (Nat × Bool)}
/-- What a look into the map yields: the value that belongs there, or none. -/
theorem lookupK {t el : TypeId} {x y : Operand} {bm c : Nat} {es : Array MapEntry} {p : κ} {z : Int} (hk : KeyOk P ke enc) (ht : mapKE P t = some (ke, el)) (hz : zeroOf P el = some (.int k' z)) (hx : ev L x = some (.map (some bm))) (hy : ev L y = some (enc p)) (hm : MemoK enc k' F es) (w : World)
    (hb : w.heap[bm]? = some (.map es c)) :
    ∃ b : Bool, ∀ ρ, Agree L ρ → (execOp ρ ⟨dd, .lookup t x y true, ty, pos, af, gd⟩).run P w = .ok (.value (.tuple #[.int k' (if b then F p else z), .bool b])) w := by
  have h1 := mapKE_eq ht
  have hg : (getObj bm).run P w = .ok (.map es c) w := by simp [getObj, Sem.run, hb]
  have hc := hk.chk es.isEmpty p w
  rcases find_memo hk p w hm with ⟨j, a1, _⟩ | a1
  · exact ⟨true, fun ρ hρ => by simp [execOp, hρ _ _ hx, hρ _ _ hy, Instr.lookup, run_underlying h1, hg, hc, a1]⟩
  · exact ⟨false, fun ρ hρ => by simp [execOp, hρ _ _ hx, hρ _ _ hy, Instr.lookup, run_underlying h1, hg, hc, a1, run_zero hz]⟩
variable {r : Option Nat} {all : Array Oper} {Q : Exit → Act → World → Prop} {rest : List Oper} {a : Act} {w w0 : World} {M : List Nat} {H : List (Nat × Obj)} {n : Nat} {ds : List Deferred} {d : Nat}
theorem ops_lookupK {t el : TypeId} {x y : Operand} {bm c i : Nat} {es : Array MapEntry} {p : κ} {z : Int} (hf : Fr n ds L a) (hh : Hp w0 M H w) (hk : KeyOk P ke enc) (ht : mapKE P t = some (ke, el)) (hz : zeroOf P el = some (.int k' z))
    (hx : ev L x = some (.map (some bm))) (hy : ev L y = some (enc p)) (hi : H[i]? = some (bm, .map es c)) (hm : MemoK enc k' F es) (hg : GOn all L ⟨some d, .lookup t x y true, ty, pos, af, gd⟩) (hn : Nat.blt d n = true)
    (K : ∀ (b : Bool) (a : Act), Fr n ds ((d, .tuple #[.int k' (if b then F p else z), .bool b]) :: L) a → OpsW P r all Q rest a w) : OpsW P r all Q (⟨some d, .lookup t x y true, ty, pos, af, gd⟩ :: rest) a w := by
  obtain ⟨b, hb⟩ := lookupK (dd := some d) (ty := ty) (pos := pos) (af := af) (gd := gd) hk ht hz hx hy hm w (hh.at hi)
  exact opsW_value (hg.wanted hf) rfl (hb _ hf.agree) (K b _ (hf.put (blt_lt hn) _))
theorem ops_mapUpdateK {t el : TypeId} {x y z : Operand} {bm c i : Nat} {es : Array MapEntry} {p : κ} (hf : Fr n ds L a) (hh : Hp w0 M H w) (hk : KeyOk P ke enc) (ht : mapKE P t = some (ke, el)) (hx : ev L x = some (.map (some bm))) (hy : ev L y = some (enc p))
    (hv : ev L z = some (.int k' (F p))) (hi : H[i]? = some (bm, .map es c)) (hm : MemoK enc k' F es) (hg : GOn all L ⟨none, .mapUpdate t x y z, ty, pos, af, gd⟩)
    (K : ∀ (es' : Array MapEntry) (c' : Nat) (w : World), MemoK enc k' F es' → Hp w0 M (H.set i (bm, .map es' c')) w → OpsW P r all Q rest a w) : OpsW P r all Q (⟨none, .mapUpdate t x y z, ty, pos, af, gd⟩ :: rest) a w := by
  have h1 := mapKE_eq ht
  have hb := hh.at hi
  have hgo : (getObj bm).run P w = .ok (.map es c) w := by simp [getObj, Sem.run, hb]
  have hc := hk.chk false p w
  have hset : ∀ o, (setObj bm o).run P w = .ok () (w.putObj bm o) := fun o => by simp [setObj, Sem.run, hb, World.putObj]
  rcases find_memo hk p w hm with ⟨j, a2, e, hej, a5⟩ | a2
  · have hkeep : (Instr.keyThatStays (((es[j]?).map (·.key)).getD (enc p)) (enc p)).run P w = .ok (enc p) w := by
      rw [hej]; simp [a5, Instr.keyThatStays, hk.bits]
    refine opsW_skip (w' := w.putObj bm (.map (es.modify j fun e => { e with key := enc p, val := .int k' (F p) }) c)) (hg.wanted hf) rfl ?_ (K _ _ _ ?_ (hh.put hi _))
    · simp [execOp, hf.agree _ _ hx, hf.agree _ _ hy, hf.agree _ _ hv, Instr.mapUpdate, run_underlying h1, hgo, hc, a2, hkeep, hset]
    · intro e' he'
      rw [Array.mem_toList_iff] at he'
      obtain ⟨q, hq, rfl⟩ := Array.getElem_of_mem he'
      rw [Array.getElem_modify]
      split
      · exact ⟨p, rfl, rfl⟩
      · exact hm _ (Array.mem_toList_iff.2 (Array.getElem_mem _))
  · refine opsW_skip (w' := w.putObj bm (.map (es.push { key := enc p, val := .int k' (F p), born := c }) (c + 1))) (hg.wanted hf) rfl ?_ (K _ _ _ ?_ (hh.put hi _))
    · simp [execOp, hf.agree _ _ hx, hf.agree _ _ hy, hf.agree _ _ hv, Instr.mapUpdate, run_underlying h1, hgo, hc, a2, hset]
    · intro e' he'
      rw [Array.toList_push, List.mem_append] at he'
      rcases he' with he' | he'
      · exact hm e' he'
      · simp at he'; subst he'; exact ⟨p, rfl, rfl⟩
end
/-- Worlds in which a map is what it should be, whatever its entries are. -/
def CW {κ : Type} (enc : κ → Value) (k' : IntKind) (F : κ → Int) (u : World) (M : List Nat) (G : Array MapEntry → Nat → List (Nat × Obj)) (w : World) : Prop := ∃ es cm, MemoK enc k' F es ∧ Hp u M (G es cm) w
section
variable {κ : Type} {enc : κ → Value} {k' : IntKind} {F : κ → Int} {u w : World} {M : List Nat} {G : Array MapEntry → Nat → List (Nat × Obj)}
theorem CW.mk {es : Array MapEntry} {cm : Nat} (hM : MemoK enc k' F es) (hh : Hp u M (G es cm) w) : CW enc k' F u M G w := ⟨es, cm, hM, hh⟩
theorem CW.at (h : CW enc k' F u M G w) {i b : Nat} {o : Obj} (hi : (fun es cm => (G es cm)[i]?) = fun _ _ => some (b, o)) : w.heap[b]? = some o :=
  let ⟨es, cm, _, h2⟩ := h; h2.at (i := i) (congrFun (congrFun hi es) cm)
theorem CW.oldM (h : CW enc k' F u M G w) {b : Nat} {o : Obj} (hb : u.heap[b]? = some o) (hm : b ∉ M) : w.heap[b]? = some o := let ⟨_, _, _, h2⟩ := h; h2.oldM hb hm
theorem CW.ext (h : CW enc k' F u M G w) : Ext M u w := let ⟨_, _, _, h2⟩ := h; h2.ext
end
end Go.Sy
namespace Go.Sy
open Go Go.Proofs
section
variable {P : Program} {C : World → Prop} {L : List (Nat × Value)} {dd : Option Tmp} {ty : TypeId} {pos : String} {af : Array Edge} {gd : Option (Nat × Bool)}
theorem arrayElem_eq {t e : TypeId} {m sz : Nat} (ht : arrayElem P t = some (m, e, sz)) : P.underlying t = some (.array m e) ∧ ∃ i, P.info? e = some i ∧ i.size = sz := by
  unfold arrayElem at ht
  split at ht
  · rename_i n' e' he
    cases hin : P.info? e' with
    | none => rw [hin] at ht; simp at ht
    | some inf =>
      rw [hin] at ht; simp at ht
      obtain ⟨rfl, rfl, rfl⟩ := ht
      exact ⟨he, inf, hin, rfl⟩
  · simp at ht
theorem yv_idxA {t e : TypeId} {m sz k : Nat} {x i : Operand} {cs : Array Value} {kk : IntKind} {j : Int} (ht : arrayElem P t = some (m, e, sz)) (hs : aggB P e = some k) (hx : ev L x = some (.agg cs)) (hi : ev L i = some (.int kk j)) (h0 : 0 ≤ j := by omega) (h1 : j < m := by omega) :
    Yv P C L ⟨dd, .index t x i, ty, pos, af, gd⟩ (.agg (cs.extract (j.toNat * sz) (j.toNat * sz + k))) := fun ρ hρ w _ => by
  obtain ⟨h2, inf, h3, rfl⟩ := arrayElem_eq ht
  obtain ⟨h4, h5⟩ := run_isAgg_agg (w := w) hs
  have h6 : inf.size = k := by simpa [sizeOf, typeInfo, h3] using h5
  simp [execOp, hρ _ _ hx, hρ _ _ hi, Instr.index, asIntOf, run_underlying h2, h0, h1, part, h4, sizeOf, typeInfo, h3, h6]
theorem yv_idxS {t e : TypeId} {m sz : Nat} {x i : Operand} {cs : Array Value} {kk : IntKind} {j : Int} {v : Value} (ht : arrayElem P t = some (m, e, sz)) (hs : scalB P e = true) (hx : ev L x = some (.agg cs)) (hi : ev L i = some (.int kk j)) (hv : cs[j.toNat * sz]? = some v)
    (h0 : 0 ≤ j := by omega) (h1 : j < m := by omega) : Yv P C L ⟨dd, .index t x i, ty, pos, af, gd⟩ v := fun ρ hρ w _ => by
  obtain ⟨h2, inf, h3, rfl⟩ := arrayElem_eq ht
  simp [execOp, hρ _ _ hx, hρ _ _ hi, Instr.index, asIntOf, run_underlying h2, h0, h1, part, run_isAgg_scal hs, sizeOf, typeInfo, h3, hv]
end
/-- A block of m rows of c integers. -/
structure Grid (m c : Nat) (G : Nat → Nat → Int) (cs : Array Value) : Prop where
  size : cs.size = m * c
  get : ∀ i k, i < m → k < c → cs[i * c + k]? = some (.int .i64 (G i k))
theorem grid_ix {m c i k : Nat} (hi : i < m) (hk : k < c) : i * c + k < m * c := by
  have h : (i + 1) * c ≤ m * c := Nat.mul_le_mul_right c hi
  rw [Nat.succ_mul] at h; omega
theorem grid_ne {c i k x y : Nat} (hk : k < c) (hy : y < c) (h : i * c + k = x * c + y) : i = x ∧ k = y := by
  have hc : 0 < c := by omega
  have e1 : (c * i + k) / c = i := by rw [Nat.mul_add_div hc, Nat.div_eq_of_lt hk, Nat.add_zero]
  have e2 : (c * x + y) / c = x := by rw [Nat.mul_add_div hc, Nat.div_eq_of_lt hy, Nat.add_zero]
  have e3 : i = x := by rw [← e1, ← e2, Nat.mul_comm c i, Nat.mul_comm c x, h]
  subst e3; omega
def updG (G : Nat → Nat → Int) (i k : Nat) (v : Int) : Nat → Nat → Int := fun x y => if x = i ∧ y = k then v else G x y
theorem Grid.set {m c : Nat} {G : Nat → Nat → Int} {cs : Array Value} (h : Grid m c G cs) {i k off : Nat} (hi : i < m) (hk : k < c) (ho : off = i * c + k) (v : Int) : Grid m c (updG G i k v) (spl cs off [.int .i64 v]) := by
  subst ho
  rw [spl_one _ _ (by rw [h.size]; exact grid_ix hi hk)]
  refine ⟨by rw [Array.size_setIfInBounds, h.size], fun x y hx hy => ?_⟩
  unfold updG
  by_cases e : x = i ∧ y = k
  · rw [if_pos e, e.1, e.2, Array.getElem?_setIfInBounds_self_of_lt (by rw [h.size]; exact grid_ix hi hk)]
  · rw [if_neg e, Array.getElem?_setIfInBounds_ne (fun hne => e ⟨(grid_ne hk hy hne).1.symm, (grid_ne hk hy hne).2.symm⟩), h.get x y hx hy]
theorem Grid.congr {m c : Nat} {G G' : Nat → Nat → Int} {cs : Array Value} (h : Grid m c G cs) (e : ∀ i k, i < m → k < c → G i k = G' i k) : Grid m c G' cs := ⟨h.size, fun i k hi hk => by rw [h.get i k hi hk, e i k hi hk]⟩
/-- The cells of a grid. -/
def gridV (m c : Nat) (G : Nat → Nat → Int) : Array Value := ((List.range (m * c)).map fun j => Value.int .i64 (G (j / c) (j % c))).toArray
theorem Grid.eq {m c : Nat} {G : Nat → Nat → Int} {cs : Array Value} (h : Grid m c G cs) : cs = gridV m c G := by
  apply Array.ext_getElem?
  intro j
  by_cases hj : j < m * c
  · have hc : 0 < c := by rcases Nat.eq_zero_or_pos c with rfl | h <;> omega
    have e := h.get (j / c) (j % c) ((Nat.div_lt_iff_lt_mul hc).2 hj) (Nat.mod_lt _ hc)
    rw [Nat.mul_comm, Nat.div_add_mod] at e
    rw [e]
    simp [gridV, hj]
  · rw [Array.getElem?_eq_none (by rw [h.size]; omega), Array.getElem?_eq_none (by simp [gridV]; omega)]
theorem gridV_grid (m c : Nat) (G : Nat → Nat → Int) : Grid m c G (gridV m c G) := by
  refine ⟨by simp [gridV], fun i k hi hk => ?_⟩
  have := grid_ix hi hk
  have hc : 0 < c := by omega
  have e1 : (i * c + k) / c = i := by rw [Nat.mul_comm, Nat.mul_add_div hc, Nat.div_eq_of_lt hk, Nat.add_zero]
  have e2 : (i * c + k) % c = k := by rw [Nat.mul_comm, Nat.mul_add_mod, Nat.mod_eq_of_lt hk]
  simp [gridV, this, e1, e2]
theorem Grid.one {m c : Nat} {G : Nat → Nat → Int} {cs : Array Value} (h : Grid m c G cs) : cs.toList.all (·.oneCell') = true := by
  rw [h.eq, List.all_eq_true]
  intro v hv
  simp only [gridV, List.mem_map] at hv
  obtain ⟨j, _, rfl⟩ := hv
  rfl
theorem grid_zero {m c : Nat} {cs : Array Value} (h1 : cs.size = m * c) (h2 : cs.toList.all (fun v => match v with | .int .i64 0 => true | _ => false) = true) : Grid m c (fun _ _ => 0) cs := by
  refine ⟨h1, fun i k hi hk => ?_⟩
  have hj : i * c + k < cs.size := by rw [h1]; exact grid_ix hi hk
  have e := List.all_eq_true.1 h2 _ (Array.getElem_mem_toList hj)
  rw [Array.getElem?_eq_getElem hj]
  split at e
  · rename_i e2; rw [e2]
  · cases e
theorem spl_all {z : Array Value} {cs : Array Value} (h : cs.size = z.size) : spl z 0 cs.toList = cs := by
  unfold spl
  apply Array.toList_inj.1
  simp only [List.take_zero, List.nil_append, Nat.zero_add]
  rw [List.drop_eq_nil_of_le (by simp [h]), List.append_nil]
theorem cellsAt_all {cs : Array Value} : cellsAt cs 0 cs.size = some cs.toList := by
  have h : ∀ (n off : Nat), off + n = cs.size → cellsAt cs off n = some (cs.toList.drop off) := by
    intro n
    induction n with
    | zero => intro off h; unfold cellsAt; rw [List.drop_eq_nil_of_le (by simp; omega)]
    | succ n ih =>
      intro off h
      have e : cs[off]? = some (cs[off]'(by omega)) := Array.getElem?_eq_getElem (by omega)
      have e2 : cs.toList.drop off = cs[off]'(by omega) :: cs.toList.drop (off + 1) := by
        rw [List.drop_eq_getElem_cons (by rw [Array.length_toList]; omega), Array.getElem_toList]
      simp only [cellsAt, ih (off + 1) (by omega), e, e2]
  rw [h _ _ (Nat.zero_add _)]; rfl
end Go.Sy
