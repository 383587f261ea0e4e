/- Lemmas, in order: Regions whose order is open, with several effects that may come: a tree of orders.. -/
import Derived.Test.YtemmhdgaagaglaaDoorQ4
namespace Go.Sy
open Go Go.Proofs Go.RowKit
/-- Orders: an operation of one value that is taken first; one, two or three effects that may come. -/
inductive OT where
  | fin
  | q (k : Nat) (t : OT)
  | e1 (k : Nat) (t : OT)
  | e2 (k : Nat) (t : OT) (k2 : Nat) (t2 : OT)
  | e3 (k : Nat) (t : OT) (k2 : Nat) (t2 : OT) (k3 : Nat) (t3 : OT)
section
variable {P : Program} {r : Option Nat} {ops : Array Oper} {md : Region.Mode} {C : World → Prop} {late : List Nat} {Q : Act → World → Prop}
def EffT (P : Program) (r : Option Nat) (ops : Array Oper) (C : World → Prop) (late : List Nat) (k : Nat) (K : Act → World → Prop) (a : Act) (w : World) : Prop :=
  wpOpIn (FR r) 0 P ops QF k (fun a' w' => (late.contains k = false → C w') ∧ K a' w') a w
def MixT (P : Program) (r : Option Nat) (ops : Array Oper) (C : World → Prop) (late : List Nat) (Q : Act → World → Prop) : OT → Act → World → Prop
  | .fin, a, w => Q a w
  | .q k t, a, w => ∃ o, ops[k]? = some o ∧ C w ∧ ∃ v, YieldsC P ops C o v a ∧ MixT P r ops C late Q t (a.put o.dst v) w
  | .e1 k t, a, w => EffT P r ops C late k (MixT P r ops C late Q t) a w
  | .e2 k t k2 t2, a, w => EffT P r ops C late k (MixT P r ops C late Q t) a w ∧ EffT P r ops C late k2 (MixT P r ops C late Q t2) a w
  | .e3 k t k2 t2 k3 t3, a, w => EffT P r ops C late k (MixT P r ops C late Q t) a w ∧ EffT P r ops C late k2 (MixT P r ops C late Q t2) a w ∧ EffT P r ops C late k3 (MixT P r ops C late Q t3) a w
def treeB (md : Region.Mode) (ops : Array Oper) (late : List Nat) : OT → Nat → Array Bool → Bool
  | .fin, f, listed => decide (f = 0) && (Region.ready md ops listed).isEmpty
  | .q k t, f, listed => decide (0 < f) && (Region.ready md ops listed).contains k && Region.free md ops listed k && (late.all fun j => reach md ops 20 k j) && treeB md ops late t (f - 1) (listed.setIfInBounds k true)
  | .e1 k t, f, listed => decide (0 < f) && decide (Region.ready md ops listed = [k]) && treeB md ops late t (f - 1) (listed.setIfInBounds k true)
  | .e2 k t k2 t2, f, listed => decide (0 < f) && decide (Region.ready md ops listed = [k, k2]) && treeB md ops late t (f - 1) (listed.setIfInBounds k true) && treeB md ops late t2 (f - 1) (listed.setIfInBounds k2 true)
  | .e3 k t k2 t2 k3 t3, f, listed => decide (0 < f) && decide (Region.ready md ops listed = [k, k2, k3]) && treeB md ops late t (f - 1) (listed.setIfInBounds k true) && treeB md ops late t2 (f - 1) (listed.setIfInBounds k2 true) && treeB md ops late t3 (f - 1) (listed.setIfInBounds k3 true)
theorem LM_tree (hnd : noDefer ops = true) (hs : Region.noSelect ops = true) :
    ∀ (t : OT) (f : Nat) (listed : Array Bool) (a : Act) (w : World), Down md ops listed → treeB md ops late t f listed = true → MixT P r ops C late Q t a w → LM P r md ops C late Q f listed a w
  | .fin, f, listed, a, w, _, hB, h => by
    simp only [treeB, Bool.and_eq_true, decide_eq_true_eq] at hB
    obtain ⟨rfl, hB⟩ := hB
    exact ⟨by simpa using hB, h⟩
  | .q k t, f, listed, a, w, hdown, hB, h => by
    simp only [treeB, Bool.and_eq_true, decide_eq_true_eq] at hB
    obtain ⟨⟨⟨⟨h0, hr⟩, hf⟩, hl⟩, hB'⟩ := hB
    obtain ⟨g, rfl⟩ : ∃ g, f = g + 1 := ⟨f - 1, by omega⟩
    obtain ⟨o, ho, hC, v, hy, h⟩ := h
    have hr' : k ∈ Region.ready md ops listed := by simpa using hr
    refine LM_first hnd ho (Region.noSelect_spec hs) (fun j hj => List.all_eq_true.1 hl j (by simpa using hj)) g listed a w hC hdown (Region.free_spec ho hf) hr' hy (LM_tree hnd hs t _ _ _ _ (hdown.set hr') hB' h)
  | .e1 k t, f, listed, a, w, hdown, hB, h => by
    simp only [treeB, Bool.and_eq_true, decide_eq_true_eq] at hB
    obtain ⟨⟨h0, hr⟩, hB'⟩ := hB
    obtain ⟨g, rfl⟩ : ∃ g, f = g + 1 := ⟨f - 1, by omega⟩
    simp only [MixT, EffT] at h
    refine ⟨fun h0 => (by rw [hr] at h0; cases h0), fun i hi => ?_⟩
    have hi' := hi
    rw [hr] at hi
    simp only [List.mem_cons, List.not_mem_nil, or_false] at hi
    subst hi
    exact wpOpIn_mono (fun a' w' h' => ⟨h'.1, LM_tree hnd hs t _ _ _ _ (hdown.set hi') hB' h'.2⟩) h
  | .e2 k t k2 t2, f, listed, a, w, hdown, hB, h => by
    simp only [treeB, Bool.and_eq_true, decide_eq_true_eq] at hB
    obtain ⟨⟨⟨h0, hr⟩, hB'⟩, hB2⟩ := hB
    obtain ⟨g, rfl⟩ : ∃ g, f = g + 1 := ⟨f - 1, by omega⟩
    simp only [MixT, EffT] at h
    refine ⟨fun h0 => (by rw [hr] at h0; cases h0), fun i hi => ?_⟩
    have hi' := hi
    rw [hr] at hi
    simp only [List.mem_cons, List.not_mem_nil, or_false] at hi
    rcases hi with rfl | rfl
    · exact wpOpIn_mono (fun a' w' h' => ⟨h'.1, LM_tree hnd hs t _ _ _ _ (hdown.set hi') hB' h'.2⟩) h.1
    · exact wpOpIn_mono (fun a' w' h' => ⟨h'.1, LM_tree hnd hs t2 _ _ _ _ (hdown.set hi') hB2 h'.2⟩) h.2
  | .e3 k t k2 t2 k3 t3, f, listed, a, w, hdown, hB, h => by
    simp only [treeB, Bool.and_eq_true, decide_eq_true_eq] at hB
    obtain ⟨⟨⟨⟨h0, hr⟩, hB'⟩, hB2⟩, hB3⟩ := hB
    obtain ⟨g, rfl⟩ : ∃ g, f = g + 1 := ⟨f - 1, by omega⟩
    simp only [MixT, EffT] at h
    refine ⟨fun h0 => (by rw [hr] at h0; cases h0), fun i hi => ?_⟩
    have hi' := hi
    rw [hr] at hi
    simp only [List.mem_cons, List.not_mem_nil, or_false] at hi
    rcases hi with rfl | rfl | rfl
    · exact wpOpIn_mono (fun a' w' h' => ⟨h'.1, LM_tree hnd hs t _ _ _ _ (hdown.set hi') hB' h'.2⟩) h.1
    · exact wpOpIn_mono (fun a' w' h' => ⟨h'.1, LM_tree hnd hs t2 _ _ _ _ (hdown.set hi') hB2 h'.2⟩) h.2.1
    · exact wpOpIn_mono (fun a' w' h' => ⟨h'.1, LM_tree hnd hs t3 _ _ _ _ (hdown.set hi') hB3 h'.2⟩) h.2.2
end
theorem sy_tree {P : Program} {r : Option Nat} {id : Nat} {Q : Exit → Act → World → Prop} {a : Act} {w w0 : World} {M : List Nat} {H : List (Nat × Obj)} {l : List Oper} (t : OT) (late : List Nat) (hm : P.follows .mixedOrders = true)
    (hB : (noDefer l.toArray && Region.noSelect l.toArray && treeB .any l.toArray late t l.toArray.size (Array.replicate l.toArray.size false)) = true)
    (hh : Hp w0 M H w) (h : ∀ w, Hp w0 M H w → MixT P r l.toArray (Hp w0 M H) late (fun a w => Q .normal a w) t a w) : WP P r (.region id l.toArray true) Q a w := by
  simp only [Bool.and_eq_true] at hB
  obtain ⟨⟨h1, h2⟩, h3⟩ := hB
  exact wpIn_region_any hm (wpAny_of_LM (C := Hp w0 M H) (late := late) (Q := fun a w => Q .normal a w) (fun _ _ h => h) _ _ _ _ (LM_tree h1 h2 t _ _ a _ (Down.none _) h3 (h _ (hh.drawn (w.drawn + 1)))))
section
variable {P : Program} {r : Option Nat} {ops : Array Oper} {C : World → Prop} {late : List Nat} {Q : Act → World → Prop} {k n : Nat} {t : OT} {ds : List Deferred} {L : List (Nat × Value)} {a : Act} {w : World} {o : Oper} {d : Nat} {v : Value}
theorem mt_v (ho : ops[k]? = some o) (hC : C w) (hf : Fr n ds L a) (y : Yv P C L o v) (hg : GOn ops L o) (hd : o.dst = some d) (hn : Nat.blt d n = true)
    (K : ∀ a, Fr n ds ((d, v) :: L) a → MixT P r ops C late Q t a w) : MixT P r ops C late Q (.q k t) a w :=
  ⟨o, ho, hC, v, .inl ⟨hg.wanted hf, fun w hw => y _ hf.agree w hw⟩, by rw [hd]; exact K _ (hf.put (blt_lt hn) v)⟩
theorem mt_e {K : Act → World → Prop} (ho : ops[k]? = some o) (h : ∀ Q', OpsW P r ops (Exit.then (fun a' w' => (late.contains k = false → C w') ∧ K a' w') Q') [o] a w) : EffT P r ops C late k K a w := by
  have h := h QF
  simp only [OpsW] at h
  unfold EffT wpOpIn
  simp only [ho]
  split
  · rename_i hw
    rw [if_pos hw] at h
    exact wpIn_qf (fun _ _ _ h => h) (fun ⟨_, _, h⟩ => ⟨a, w, h⟩) (Oper.wpIn_mono (fun _ _ h => h) h)
  · rename_i hw
    rw [if_neg hw] at h
    exact ⟨fun _ _ => trivial, h⟩
theorem mt_end (h : Q a w) : MixT P r ops C late Q .fin a w := h
end
end Go.Sy
