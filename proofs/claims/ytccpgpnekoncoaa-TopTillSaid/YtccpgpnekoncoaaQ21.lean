/- Lemmas, in order: Regions whose order is open, with blocks that are laid in any order: what is known of them does not tell the order. Operations that lay a block: allocations, slices that are built, boxes. Blocks that are laid in any order, and a value that is made of some of them as soon as these stand. Slices of slices of numbers that a row is handed. Values that hold at this world alone.. -/
import Derived.Test.YtccpgpnekoncoaaQ20
namespace Go.Sy
open Go Go.Proofs Go.RowKit
inductive OS where
  | fin
  | p (k : Nat) (t : OS)
  | q (c k : Nat) (t : OS)
  | e1 (k : Nat) (t : OS)
  | s (A : List Nat) (t : OS)
  | s2 (A E : List Nat) (k : Nat) (t : OS)
def subs : List Nat → List (List Nat)
  | [] => [[]]
  | a :: l => subs l ++ (subs l).map (a :: ·)
theorem subs_filter (p : Nat → Bool) : ∀ l : List Nat, l.filter p ∈ subs l
  | [] => .head _
  | a :: l => by
    rw [List.filter_cons, subs, List.mem_append]
    split
    · exact .inr (List.mem_map.2 ⟨_, subs_filter p l, rfl⟩)
    · exact .inl (subs_filter p l)
def setL (listed : Array Bool) (D : List Nat) : Array Bool := D.foldl (fun l k => l.setIfInBounds k true) listed
theorem setL_perm {D D' : List Nat} (h : D.Perm D') (listed : Array Bool) : setL listed D = setL listed D' := by
  unfold setL
  refine h.foldl_eq' (fun x _ y _ z => ?_) _
  by_cases e : x = y
  · subst e; rfl
  · exact Array.setIfInBounds_comm _ _ e
theorem setL_snoc (listed : Array Bool) (D : List Nat) (i : Nat) : (setL listed D).setIfInBounds i true = setL listed (i :: D) := by
  have h := setL_perm (List.perm_append_comm (l₁ := [i]) (l₂ := D)) listed
  show _ = setL listed ([i] ++ D)
  rw [h]
  unfold setL
  rw [List.foldl_append]; rfl
theorem len_le {α : Type} : ∀ {D A : List α}, D.Nodup → (∀ j ∈ D, j ∈ A) → D.length ≤ A.length
  | [], _, _, _ => Nat.zero_le _
  | x :: D, A, hD, hs => by
    obtain ⟨h1, h2⟩ := List.nodup_cons.1 hD
    obtain ⟨l1, l2, rfl⟩ := List.append_of_mem (hs x (.head _))
    have := len_le (A := l1 ++ l2) h2 fun j hj => by
      have h3 := hs j (.tail _ hj)
      rcases List.mem_append.1 h3 with h4 | h4
      · exact List.mem_append_left _ h4
      · rcases List.mem_cons.1 h4 with rfl | h4
        · exact absurd hj h1
        · exact List.mem_append_right _ h4
    rw [List.length_append] at this ⊢
    rw [List.length_cons, List.length_cons]
    omega
theorem perm_of_len {α : Type} {A D : List α} (hA : A.Nodup) (hD : D.Nodup) (hs : ∀ j ∈ D, j ∈ A) (hl : A.length ≤ D.length) : D.Perm A := by
  refine (List.perm_ext_iff_of_nodup hD hA).2 fun x => ⟨hs x, fun hx => ?_⟩
  refine Classical.byContradiction fun hn => ?_
  have := len_le (D := x :: D) (A := A) (List.nodup_cons.2 ⟨hn, hD⟩) fun j hj => by
    rcases List.mem_cons.1 hj with rfl | hj
    · exact hx
    · exact hs j hj
  rw [List.length_cons] at this
  omega
section
variable {P : Program} {r : Option Nat} {ops : Array Oper} {md : Region.Mode} {Cs : Cls} {Q : Act → World → Prop}
def MixS (P : Program) (r : Option Nat) (ops : Array Oper) (Cs : Cls) (Q : Act → World → Prop) : OS → Act → World → Prop
  | .fin, a, w => Q a w
  | .p k t, a, w => ∃ o, ops[k]? = some o ∧ ∃ v, YieldsC P ops (fun _ => True) o v a ∧ MixS P r ops Cs Q t (a.put o.dst v) w
  | .q c k t, a, w => ∃ o p, ops[k]? = some o ∧ Cs[c]? = some p ∧ p.1 w ∧ ∃ v, YieldsC P ops p.1 o v a ∧ MixS P r ops Cs Q t (a.put o.dst v) w
  | .e1 k t, a, w => EffC P r ops Cs k (MixS P r ops Cs Q t) a w
  | .s A t, a, w => ∃ Z : List Nat → Act → World → Prop, Z [] a w ∧
      (∀ D i a w, i ∈ A → i ∉ D → (∀ j ∈ D, j ∈ A) → D.Nodup → Z D a w → EffC P r ops Cs i (Z (i :: D)) a w) ∧
      ∀ D a w, D.Perm A → Z D a w → MixS P r ops Cs Q t a w
  | .s2 A E k t, a, w => ∃ (Z Y : List Nat → Act → World → Prop) (o : Oper), ops[k]? = some o ∧ Z [] a w ∧
      (∀ D i a w, i ∈ A → i ∉ D → (∀ j ∈ D, j ∈ A) → D.Nodup → Z D a w → EffC P r ops Cs i (Z (i :: D)) a w) ∧
      (∀ D a w, (∀ j ∈ E, j ∈ D) → D.Nodup → Z D a w → ∃ v, YieldsC P ops (fun _ => True) o v a ∧ Y D (a.put o.dst v) w) ∧
      (∀ D i a w, i ∈ A → i ∉ D → (∀ j ∈ D, j ∈ A) → (∀ j ∈ E, j ∈ D) → D.Nodup → Y D a w → EffC P r ops Cs i (Y (i :: D)) a w) ∧
      ∀ D a w, D.Perm A → Y D a w → MixS P r ops Cs Q t a w
def treeS (md : Region.Mode) (ops : Array Oper) (lates : List (List Nat)) : OS → Nat → Array Bool → Bool
  | .fin, f, listed => decide (f = 0) && (Region.ready md ops listed).isEmpty
  | .p k t, f, listed => decide (0 < f) && (Region.ready md ops listed).contains k && Region.free md ops listed k && treeS md ops lates t (f - 1) (listed.setIfInBounds k true)
  | .q c k t, f, listed => decide (0 < f) && (Region.ready md ops listed).contains k && Region.free md ops listed k && ((lates.getD c []).all fun j => reach md ops 40 k j) && treeS md ops lates t (f - 1) (listed.setIfInBounds k true)
  | .e1 k t, f, listed => decide (0 < f) && decide (Region.ready md ops listed = [k]) && treeS md ops lates t (f - 1) (listed.setIfInBounds k true)
  | .s A t, f, listed => decide (A.length ≤ f) && decide A.Nodup && ((subs A).all fun D => decide (D.length = A.length) || decide (Region.ready md ops (setL listed D) = A.filter fun i => !D.contains i)) && treeS md ops lates t (f - A.length) (setL listed A)
  | .s2 A E k t, f, listed => decide (A.length < f) && decide A.Nodup && (E.all fun j => A.contains j) && ((subs A).all fun D => bif E.all fun j => D.contains j then
      (Region.ready md ops (setL listed D)).contains k && Region.free md ops (setL listed D) k && (decide (D.length = A.length) || decide (Region.ready md ops (setL listed (k :: D)) = A.filter fun i => !D.contains i))
      else decide (Region.ready md ops (setL listed D) = A.filter fun i => !D.contains i)) && treeS md ops lates t (f - A.length - 1) (setL listed (k :: A))
theorem filter_perm {A D : List Nat} (hA : A.Nodup) (hD : D.Nodup) (hs : ∀ j ∈ D, j ∈ A) : (A.filter fun i => D.contains i).Perm D := by
  refine (List.perm_ext_iff_of_nodup (hA.sublist List.filter_sublist) hD).2 fun x => ?_
  rw [List.mem_filter, List.contains_iff_mem]
  exact ⟨fun h => h.2, fun h => ⟨hs x h, h⟩⟩
theorem LC_treeS {lates : List (List Nat)} (hlt : Cs.map Prod.snd = lates) (hnd : noDefer ops = true) (hs : Region.noSelect ops = true) :
    ∀ (t : OS) (f : Nat) (listed : Array Bool) (a : Act) (w : World), Down md ops listed → treeS md ops lates t f listed = true → MixS P r ops Cs Q t a w → LC P r md ops Cs Q f listed a w
  | .fin, f, listed, a, w, _, hB, h => by
    simp only [treeS, Bool.and_eq_true, decide_eq_true_eq] at hB
    obtain ⟨rfl, hB⟩ := hB
    exact ⟨by simpa using hB, h⟩
  | .p k t, f, listed, a, w, hdown, hB, h => by
    simp only [treeS, Bool.and_eq_true, decide_eq_true_eq] at hB
    obtain ⟨⟨⟨h0, hr⟩, hf⟩, hB'⟩ := hB
    obtain ⟨g, rfl⟩ : ∃ g, f = g + 1 := ⟨f - 1, by omega⟩
    obtain ⟨o, ho, v, hy, h⟩ := h
    have hr' : k ∈ Region.ready md ops listed := by simpa using hr
    exact LC_first (C := fun _ => True) hnd ho (Region.noSelect_spec hs) (fun _ _ _ _ _ _ _ _ _ => trivial) g listed a w trivial hdown (Region.free_spec ho hf) hr' hy (LC_treeS hlt hnd hs t _ _ _ _ (hdown.set hr') hB' h)
  | .q c k t, f, listed, a, w, hdown, hB, h => by
    simp only [treeS, Bool.and_eq_true, decide_eq_true_eq] at hB
    obtain ⟨⟨⟨⟨h0, hr⟩, hf⟩, hl⟩, hB'⟩ := hB
    obtain ⟨g, rfl⟩ : ∃ g, f = g + 1 := ⟨f - 1, by omega⟩
    obtain ⟨o, p, ho, hp, hC, v, hy, h⟩ := h
    have hr' : k ∈ Region.ready md ops listed := by simpa using hr
    have hpl : lates.getD c [] = p.2 := by
      rw [← hlt, List.getD_eq_getElem?_getD, List.getElem?_map, hp]; rfl
    rw [hpl] at hl
    refine LC_first (C := p.1) hnd ho (Region.noSelect_spec hs) (fun listed j w w' hd hu hj hP hC => ?_) g listed a w hC hdown (Region.free_spec ho hf) hr' hy (LC_treeS hlt hnd hs t _ _ _ _ (hdown.set hr') hB' h)
    refine hP.get (List.mem_of_getElem? hp) ?_ hC
    cases hlj : p.2.contains j
    · rfl
    · exact (reach_ready hd hu (List.all_eq_true.1 hl j (by simpa using hlj)) hj).elim
  | .e1 k t, f, listed, a, w, hdown, hB, h => by
    simp only [treeS, Bool.and_eq_true, decide_eq_true_eq] at hB
    obtain ⟨⟨h0, hr⟩, hB'⟩ := hB
    obtain ⟨g, rfl⟩ : ∃ g, f = g + 1 := ⟨f - 1, by omega⟩
    simp only [MixS, EffC] at h
    refine ⟨fun h0 => (by rw [hr] at h0; cases h0), fun i hi => ?_⟩
    have hi' := hi
    rw [hr] at hi
    simp only [List.mem_cons, List.not_mem_nil, or_false] at hi
    subst hi
    exact wpOpIn_mono (fun a' w' h' => ⟨h'.1, LC_treeS hlt hnd hs t _ _ _ _ (hdown.set hi') hB' h'.2⟩) h
  | .s A t, f, listed, a, w, hdown, hB, h => by
    simp only [treeS, Bool.and_eq_true, decide_eq_true_eq] at hB
    obtain ⟨⟨⟨hlen, hnA⟩, hsub⟩, hB'⟩ := hB
    obtain ⟨Z, z0, zs, zf⟩ := h
    have key : ∀ (m : Nat) (D : List Nat) (a : Act) (w : World), D.Nodup → (∀ j ∈ D, j ∈ A) → D.length + m = A.length → Down md ops (setL listed D) → Z D a w → LC P r md ops Cs Q (f - A.length + m) (setL listed D) a w := by
      intro m
      induction m with
      | zero =>
        intro D a w hD hs2 hl hdn hz
        have hp := perm_of_len hnA hD hs2 (by omega)
        rw [setL_perm hp listed]
        exact LC_treeS hlt hnd hs t _ _ _ _ (by rw [← setL_perm hp listed]; exact hdn) hB' (zf D a w hp hz)
      | succ m ih =>
        intro D a w hD hs2 hl hdn hz
        have hfp := filter_perm hnA hD hs2
        have hrd : Region.ready md ops (setL listed D) = A.filter fun i => !D.contains i := by
          have h1 := List.all_eq_true.1 hsub _ (subs_filter (fun i => D.contains i) A)
          rw [Bool.or_eq_true, decide_eq_true_eq, decide_eq_true_eq] at h1
          rcases h1 with h1 | h1
          · have := hfp.length_eq
            omega
          · rw [setL_perm hfp listed] at h1
            rw [h1]
            refine List.filter_congr fun x _ => ?_
            congr 1
            rw [Bool.eq_iff_iff, List.contains_iff_mem, List.contains_iff_mem]
            exact hfp.mem_iff
        refine ⟨fun h0 => ?_, fun i hi => ?_⟩
        · exfalso
          rw [hrd, List.filter_eq_nil_iff] at h0
          have hAD : ∀ j ∈ A, j ∈ D := fun j hj => by
            have := h0 j hj
            simpa using this
          have := len_le hnA hAD
          omega
        · have hi' := hi
          rw [hrd, List.mem_filter] at hi
          have hiD : i ∉ D := by simpa using hi.2
          refine wpOpIn_mono (fun a' w' h' => ⟨h'.1, ?_⟩) (zs D i a w hi.1 hiD hs2 hD hz)
          have hdn2 := hdn.set hi'
          rw [setL_snoc] at hdn2 ⊢
          exact ih (i :: D) a' w' (List.nodup_cons.2 ⟨hiD, hD⟩) (fun j hj => by
            rcases List.mem_cons.1 hj with rfl | hj
            · exact hi.1
            · exact hs2 j hj) (by rw [List.length_cons]; omega) hdn2 h'.2
    have := key A.length [] a w List.nodup_nil (fun j hj => by cases hj) (by simp) hdown z0
    rw [show f - A.length + A.length = f by omega] at this
    exact this
  | .s2 A E k t, f, listed, a, w, hdown, hB, h => by
    simp only [treeS, Bool.and_eq_true, decide_eq_true_eq] at hB
    obtain ⟨⟨⟨⟨hlen, hnA⟩, hEA⟩, hsub⟩, hB'⟩ := hB
    obtain ⟨Z, Y, o, ho, z0, zs, zy, ys, yf⟩ := h
    have hEA' : ∀ j ∈ E, j ∈ A := fun j hj => by simpa using List.all_eq_true.1 hEA j hj
    have fall : ∀ {D : List Nat}, (∀ j ∈ D, j ∈ A) → ((∀ j ∈ E, j ∈ D) ↔ (E.all fun j => (A.filter fun i => D.contains i).contains j) = true) := fun {D} hs2 => by
      rw [List.all_eq_true]
      refine forall_congr' fun j => forall_congr' fun hj => ?_
      rw [List.contains_iff_mem, List.mem_filter, List.contains_iff_mem]
      exact ⟨fun h => ⟨hEA' j hj, h⟩, fun h => h.2⟩
    have ffl : ∀ {D : List Nat}, D.Nodup → (∀ j ∈ D, j ∈ A) → (A.filter fun i => !(A.filter fun i => D.contains i).contains i) = A.filter fun i => !D.contains i := fun {D} hD hs2 => by
      refine List.filter_congr fun x _ => ?_
      congr 1
      rw [Bool.eq_iff_iff, List.contains_iff_mem, List.contains_iff_mem]
      exact (filter_perm hnA hD hs2).mem_iff
    have stop : ∀ {D : List Nat}, D.length + 1 ≤ A.length → (A.filter fun i => !D.contains i) = [] → False := fun {D} hl h0 => by
      rw [List.filter_eq_nil_iff] at h0
      have hAD : ∀ j ∈ A, j ∈ D := fun j hj => by
        have := h0 j hj
        simpa using this
      have := len_le hnA hAD
      omega
    have key2 : ∀ (m : Nat) (D : List Nat) (a : Act) (w : World), D.Nodup → (∀ j ∈ D, j ∈ A) → (∀ j ∈ E, j ∈ D) → D.length + m = A.length → Down md ops (setL listed (k :: D)) → Y D a w → LC P r md ops Cs Q (f - A.length - 1 + m) (setL listed (k :: D)) a w := by
      intro m
      induction m with
      | zero =>
        intro D a w hD hs2 hE hl hdn hz
        have hp := perm_of_len hnA hD hs2 (by omega)
        rw [setL_perm (hp.cons k) listed]
        exact LC_treeS hlt hnd hs t _ _ _ _ (by rw [← setL_perm (hp.cons k) listed]; exact hdn) hB' (yf D a w hp hz)
      | succ m ih =>
        intro D a w hD hs2 hE hl hdn hz
        have hfp := filter_perm hnA hD hs2
        have hrd : Region.ready md ops (setL listed (k :: D)) = A.filter fun i => !D.contains i := by
          have h1 := List.all_eq_true.1 hsub _ (subs_filter (fun i => D.contains i) A)
          rw [(fall hs2).1 hE, cond_true, Bool.and_eq_true, Bool.and_eq_true, Bool.or_eq_true, decide_eq_true_eq, decide_eq_true_eq] at h1
          rcases h1.2 with h1 | h1
          · have := hfp.length_eq
            omega
          · rw [setL_perm (hfp.cons k) listed, ffl hD hs2] at h1
            exact h1
        refine ⟨fun h0 => (stop (by omega) (hrd.symm.trans h0)).elim, fun i hi => ?_⟩
        have hi' := hi
        rw [hrd, List.mem_filter] at hi
        have hiD : i ∉ D := by simpa using hi.2
        refine wpOpIn_mono (fun a' w' h' => ⟨h'.1, ?_⟩) (ys D i a w hi.1 hiD hs2 hE hD hz)
        have hdn2 := hdn.set hi'
        rw [setL_snoc, setL_perm (List.Perm.swap k i D) listed] at hdn2 ⊢
        exact ih (i :: D) a' w' (List.nodup_cons.2 ⟨hiD, hD⟩) (fun j hj => by
          rcases List.mem_cons.1 hj with rfl | hj
          · exact hi.1
          · exact hs2 j hj) (fun j hj => .tail _ (hE j hj)) (by rw [List.length_cons]; omega) hdn2 h'.2
    have key : ∀ (m : Nat) (D : List Nat) (a : Act) (w : World), D.Nodup → (∀ j ∈ D, j ∈ A) → D.length + m = A.length → Down md ops (setL listed D) → Z D a w → LC P r md ops Cs Q (f - A.length - 1 + m + 1) (setL listed D) a w := by
      intro m
      induction m with
      | zero =>
        intro D a w hD hs2 hl hdn hz
        have hp := perm_of_len hnA hD hs2 (by omega)
        have hE : ∀ j ∈ E, j ∈ D := fun j hj => hp.mem_iff.2 (hEA' j hj)
        have hfp := filter_perm hnA hD hs2
        have h1 := List.all_eq_true.1 hsub _ (subs_filter (fun i => D.contains i) A)
        rw [(fall hs2).1 hE, cond_true, setL_perm hfp listed, Bool.and_eq_true, Bool.and_eq_true] at h1
        have hr' : k ∈ Region.ready md ops (setL listed D) := by simpa using h1.1.1
        obtain ⟨v, hy, hz2⟩ := zy D a w hE hD hz
        have hdn2 := hdn.set hr'
        refine LC_first (C := fun _ => True) hnd ho (Region.noSelect_spec hs) (fun _ _ _ _ _ _ _ _ _ => trivial) _ _ a w trivial hdn (Region.free_spec ho h1.1.2) hr' hy ?_
        rw [setL_snoc] at hdn2 ⊢
        exact key2 0 D _ w hD hs2 hE hl hdn2 hz2
      | succ m ih =>
        intro D a w hD hs2 hl hdn hz
        have hfp := filter_perm hnA hD hs2
        have h1 := List.all_eq_true.1 hsub _ (subs_filter (fun i => D.contains i) A)
        by_cases hE : ∀ j ∈ E, j ∈ D
        · rw [(fall hs2).1 hE, cond_true, setL_perm hfp listed, Bool.and_eq_true, Bool.and_eq_true] at h1
          have hr' : k ∈ Region.ready md ops (setL listed D) := by simpa using h1.1.1
          obtain ⟨v, hy, hz2⟩ := zy D a w hE hD hz
          have hdn2 := hdn.set hr'
          refine LC_first (C := fun _ => True) hnd ho (Region.noSelect_spec hs) (fun _ _ _ _ _ _ _ _ _ => trivial) _ _ a w trivial hdn (Region.free_spec ho h1.1.2) hr' hy ?_
          rw [setL_snoc] at hdn2 ⊢
          exact key2 (m + 1) D _ w hD hs2 hE hl hdn2 hz2
        · have hE' : (E.all fun j => (A.filter fun i => D.contains i).contains j) = false := by
            rw [Bool.eq_false_iff]
            exact fun h => hE ((fall hs2).2 h)
          rw [hE', cond_false, decide_eq_true_eq, setL_perm hfp listed, ffl hD hs2] at h1
          refine ⟨fun h0 => (stop (by omega) (h1.symm.trans h0)).elim, fun i hi => ?_⟩
          have hi' := hi
          rw [h1, List.mem_filter] at hi
          have hiD : i ∉ D := by simpa using hi.2
          refine wpOpIn_mono (fun a' w' h' => ⟨h'.1, ?_⟩) (zs D i a w hi.1 hiD hs2 hD hz)
          have hdn2 := hdn.set hi'
          rw [setL_snoc] at hdn2 ⊢
          exact ih (i :: D) a' w' (List.nodup_cons.2 ⟨hiD, hD⟩) (fun j hj => by
            rcases List.mem_cons.1 hj with rfl | hj
            · exact hi.1
            · exact hs2 j hj) (by rw [List.length_cons]; omega) hdn2 h'.2
    have := key A.length [] a w List.nodup_nil (fun j hj => by cases hj) (by simp) hdown z0
    rw [show f - A.length - 1 + A.length + 1 = f by omega] at this
    exact this
end
theorem sy_treeS {P : Program} {r : Option Nat} {id : Nat} {Q : Exit → Act → World → Prop} {a : Act} {w w0 : World} {M : List Nat} {H : List (Nat × Obj)} {l : List Oper} (t : OS) (lates : List (List Nat)) (Cs : Cls) (hm : P.follows .mixedOrders = true)
    (hB : (noDefer l.toArray && Region.noSelect l.toArray && treeS .any l.toArray lates t l.toArray.size (Array.replicate l.toArray.size false)) = true) (hlt : Cs.map Prod.snd = lates)
    (hh : Hp w0 M H w) (h : ∀ w, Hp w0 M H w → MixS P r l.toArray Cs (fun a w => Q .normal a w) t a w) : WP P r (.region id l.toArray true) Q a w := by
  simp only [Bool.and_eq_true] at hB
  obtain ⟨⟨h1, h2⟩, h3⟩ := hB
  exact wpIn_region_any hm (wpAny_of_LC (Cs := Cs) (Q := fun a w => Q .normal a w) (fun _ _ h => h) _ _ _ _ (LC_treeS hlt h1 h2 t _ _ a _ (Down.none _) h3 (h _ (hh.drawn (w.drawn + 1)))))
/-- An operation that lays one block, whatever the world. -/
def Lays (P : Program) (L : List (Nat × Value)) (o : Oper) (v : Nat → Value) (obj : Obj) : Prop :=
  ∀ ρ, Agree L ρ → ∀ w : World, (execOp ρ o).run P w = .ok (.value (v w.heap.size)) { w with heap := w.heap.push obj }
structure Lay where
  k : Nat
  d : Nat
  v : Nat → Value
  obj : Obj
section
variable {P : Program} {r : Option Nat} {ops : Array Oper} {Cs : Cls} {Q : Act → World → Prop} {k n c : Nat} {t : OS} {ds : List Deferred} {L : List (Nat × Value)} {a : Act} {w w0 : World} {M : List Nat} {H : List (Nat × Obj)} {o : Oper} {d : Nat} {v : Value} {p : (World → Prop) × List Nat}
theorem ms_p (ho : ops[k]? = some o) (hf : Fr n ds L a) (y : Yv P (fun _ => True) L o v) (hg : GOn ops L o) (hd : o.dst = some d) (hn : Nat.blt d n = true)
    (K : ∀ a, Fr n ds ((d, v) :: L) a → MixS P r ops Cs Q t a w) : MixS P r ops Cs Q (.p k t) a w :=
  ⟨o, ho, v, .inl ⟨hg.wanted hf, fun w hw => y _ hf.agree w hw⟩, by rw [hd]; exact K _ (hf.put (blt_lt hn) v)⟩
theorem ms_q (ho : ops[k]? = some o) (hc : Cs[c]? = some p) (hC : p.1 w) (hf : Fr n ds L a) (y : Yv P p.1 L o v) (hg : GOn ops L o) (hd : o.dst = some d) (hn : Nat.blt d n = true)
    (K : ∀ a, Fr n ds ((d, v) :: L) a → MixS P r ops Cs Q t a w) : MixS P r ops Cs Q (.q c k t) a w :=
  ⟨o, p, ho, hc, hC, v, .inl ⟨hg.wanted hf, fun w hw => y _ hf.agree w hw⟩, by rw [hd]; exact K _ (hf.put (blt_lt hn) v)⟩
theorem ms_e {K : Act → World → Prop} (ho : ops[k]? = some o) (h : ∀ Q', OpsW P r ops (Exit.then (fun a' w' => Pres Cs k w w' ∧ K a' w') Q') [o] a w) : EffC P r ops Cs k K a w := mc_e ho h
theorem ms_end (h : Q a w) : MixS P r ops Cs Q .fin a w := h
theorem lk_skip {f : Lay → Nat × Value} {t : Nat} : ∀ {D : List Lay}, (∀ s ∈ D, (f s).1 ≠ t) → lk (D.map f ++ L) t = lk L t
  | [], _ => rfl
  | s :: D, h => by
    have h1 := h s (.head _)
    show lk ((f s) :: (D.map f ++ L)) t = _
    rcases hfs : f s with ⟨x, y⟩
    rw [hfs] at h1
    rw [lk, beq_ne h1, cond_false]
    exact lk_skip fun s' hs => h s' (.tail _ hs)
theorem allIn_skip {f : Lay → Nat × Value} {D : List Lay} : ∀ {Lo : List (Nat × Value)}, AllIn L Lo → (∀ s ∈ D, ∀ q ∈ Lo, (f s).1 ≠ q.1) → AllIn (D.map f ++ L) Lo
  | [], _, _ => True.intro
  | (t, v) :: Lo, h, hn => ⟨(lk_skip fun s hs => hn s hs _ (.head _)).trans h.1, allIn_skip h.2 fun s hs q hq => hn s hs q (.tail _ hq)⟩
theorem lk_mem {f : Lay → Nat × Value} {s : Lay} : ∀ {D : List Lay}, s ∈ D → (D.map fun s => (f s).1).Nodup → lk (D.map f ++ L) (f s).1 = some (f s).2
  | [], h, _ => by cases h
  | x :: D, h, hn => by
    obtain ⟨h1, h2⟩ := List.nodup_cons.1 hn
    show lk ((f x) :: (D.map f ++ L)) _ = _
    rcases List.mem_cons.1 h with rfl | h
    · rcases hfs : f s with ⟨y, z⟩
      show lk ((y, z) :: _) y = _
      simp [lk]
    · have hne : (f x).1 ≠ (f s).1 := fun e => h1 (List.mem_map.2 ⟨s, h, e.symm⟩)
      rcases hfs : f x with ⟨y, z⟩
      rw [hfs] at hne
      rw [lk, beq_ne hne, cond_false]
      exact lk_mem h h2
theorem lk_perm {f : Lay → Nat × Value} {D D' : List Lay} (hp : D.Perm D') (hn : (D.map fun s => (f s).1).Nodup) (t : Nat) : lk (D.map f ++ L) t = lk (D'.map f ++ L) t := by
  have hn' : (D'.map fun s => (f s).1).Nodup := (hp.map _).nodup_iff.1 hn
  by_cases h : ∃ s ∈ D, (f s).1 = t
  · obtain ⟨s, hs, rfl⟩ := h
    rw [lk_mem hs hn, lk_mem (hp.mem_iff.1 hs) hn']
  · rw [lk_skip fun s hs e => h ⟨s, hs, e⟩, lk_skip fun s hs e => h ⟨s, hp.mem_iff.2 hs, e⟩]
theorem Ext.push (w : World) (o : Obj) : Ext [] w { w with heap := w.heap.push o } := ((Hp.init w []).alloc o).ext
structure LayOk (P : Program) (ops : Array Oper) (n : Nat) (L : List (Nat × Value)) (S : List Lay) (s : Lay) : Prop where
  ok : ∃ o Lo, ops[s.k]? = some o ∧ o.dst = some s.d ∧ o.guard = none ∧ isDefer o.op = false ∧ Nat.blt s.d n = true ∧ Lays P Lo o s.v s.obj ∧ AllIn L Lo ∧ ∀ x ∈ S, ∀ q ∈ Lo, x.d ≠ q.1
theorem ms_s (S : List Lay) (hf : Fr n ds L a) (hh : Hp w0 M H w) (hS : ∀ s ∈ S, LayOk P ops n L S s) (hkn : (S.map Lay.k).Nodup) (hdn : (S.map Lay.d).Nodup) (hP : ∀ i w w', Ext [] w w' → Pres Cs i w w')
    (K : ∀ (β : Nat → Nat) (a : Act) (w : World), Fr n ds (S.map (fun s => (s.d, s.v (β s.k))) ++ L) a → Hp w0 M (S.map (fun s => (β s.k, s.obj)) ++ H) w → MixS P r ops Cs Q t a w) : MixS P r ops Cs Q (.s (S.map Lay.k) t) a w := by
  refine ⟨fun D a w => ∃ (T : List Lay) (β : Nat → Nat), T.map Lay.k = D ∧ (∀ s ∈ T, s ∈ S) ∧ Fr n ds (T.map (fun s => (s.d, s.v (β s.k))) ++ L) a ∧ Hp w0 M (T.map (fun s => (β s.k, s.obj)) ++ H) w, ⟨[], fun _ => 0, rfl, fun s h => (nomatch h), hf, hh⟩, ?_, ?_⟩
  · rintro D i a w hi hiD _ _ ⟨T, β, rfl, hT, hf, hh⟩
    obtain ⟨s, hs, rfl⟩ := List.mem_map.1 hi
    obtain ⟨o, Lo, ho, hd, hg, hdf, hn, hl, hA, hx⟩ := (hS s hs).ok
    have hag : Agree Lo a.eval := (hf.sub (allIn_skip hA fun x hx2 q hq => hx x (hT x hx2) q hq)).agree
    refine ms_e ho fun Q' => ?_
    refine opsW_value (GOn.wanted hf (.inl hg)) hdf (hl _ hag w) (ops_end (then_n ⟨hP _ _ _ (Ext.push w _), s :: T, fun j => if j = s.k then w.heap.size else β j, rfl, ?_, ?_, ?_⟩))
    · intro x hx2
      rcases List.mem_cons.1 hx2 with rfl | hx2
      · exact hs
      · exact hT x hx2
    · have e : T.map (fun x => (x.d, x.v (if x.k = s.k then w.heap.size else β x.k))) = T.map (fun x => (x.d, x.v (β x.k))) := List.map_congr_left fun x hx2 => by
        rw [if_neg fun e => hiD (by rw [← e]; exact List.mem_map.2 ⟨x, hx2, rfl⟩)]
      show Fr n ds ((s.d, s.v (if s.k = s.k then w.heap.size else β s.k)) :: (T.map (fun x => (x.d, x.v (if x.k = s.k then w.heap.size else β x.k))) ++ L)) _
      rw [if_pos rfl, e, hd]
      exact hf.put (blt_lt hn) _
    · have e : T.map (fun x => ((if x.k = s.k then w.heap.size else β x.k), x.obj)) = T.map (fun x => (β x.k, x.obj)) := List.map_congr_left fun x hx2 => by
        rw [if_neg fun e => hiD (by rw [← e]; exact List.mem_map.2 ⟨x, hx2, rfl⟩)]
      show Hp w0 M (((if s.k = s.k then w.heap.size else β s.k), s.obj) :: (T.map (fun x => ((if x.k = s.k then w.heap.size else β x.k), x.obj)) ++ H)) _
      rw [if_pos rfl, e]
      exact hh.alloc _
  · rintro D a w hD ⟨T, β, rfl, hT, hf, hh⟩
    have hTn : T.Nodup := by
      have h1 : (T.map Lay.k).Nodup := hD.nodup_iff.2 hkn
      exact List.Pairwise.of_map Lay.k (fun a b h e => h (congrArg Lay.k e)) h1
    have hSn : S.Nodup := List.Pairwise.of_map Lay.k (fun a b h e => h (congrArg Lay.k e)) hkn
    have hp : T.Perm S := perm_of_len hSn hTn hT (by
      have := hD.length_eq
      rw [List.length_map, List.length_map] at this; omega)
    refine K β a w ⟨hf.size, hf.defers, fun t v ht => hf.get t v ?_⟩ (hh.perm ((hp.map _).append_right _))
    rw [lk_perm (f := fun s : Lay => (s.d, s.v (β s.k))) hp ((hp.map Lay.d).nodup_iff.2 hdn)]
    exact ht
end
end Go.Sy
namespace Go.Sy
open Go Go.Proofs Go.RowKit
theorem AtE.more {u w w' : World} {M : List Nat} {H : List (Nat × Obj)} (h : AtE u M H w) (e : Ext [] w w') : AtE u M H w' := ⟨h.1.trans (e.mono (by simp)), fun p hp => e.get (h.2 p hp)⟩
section
variable {P : Program} {L : List (Nat × Value)} {d : Nat} {v : Value} {ty : TypeId} {pos : String} {af : Array Edge} {gd : Option (Nat × Bool)}
theorem lay_alloc {t : TypeId} (hz : zeroOf P t = some v) : Lays P L ⟨some d, .alloc t, ty, pos, af, gd⟩ (fun b => ptr b 0) (.cells v.cells t) := fun ρ _ w => by
  simp only [execOp, Instr.alloc, Sem.run_bind, run_zero hz, Result.andThen_ok]; rfl
theorem lay_box {t : TypeId} {x : Operand} (hx : ev L x = some v) : Lays P L ⟨some d, .box t x, ty, pos, af, gd⟩ (fun b => ptr b 0) (.cells v.cells t) := fun ρ hρ w => by
  simp only [execOp, hρ _ _ hx]; rfl
theorem lay_buildSl {t : TypeId} {m sz : Nat} {parts : List (Nat × Operand)} {pv : List (Nat × Value)} {zs cs : List Value} {e : TypeId} (ht : sliceB P t m = some (e, sz, zs)) (hp : evp L parts = some pv)
    (hc : fillM (fun i => some (i * sz, sz)) zs pv = some cs) : Lays P L ⟨some d, .buildSlice t m parts.toArray, ty, pos, af, gd⟩ (fun b => .slice (some ⟨b, 0, none⟩) m m) (.cells cs.toArray e) := fun ρ hρ w => by
  have hp' := evp_map hρ _ _ hp
  have hrun : (Instr.buildSlice t m pv.toArray).run P w = .ok (.slice (some ⟨w.heap.size, 0, none⟩) m m) { w with heap := w.heap.push (.cells cs.toArray e) } := by
    unfold sliceB at ht
    split at ht
    · rename_i e' h1
      split at ht
      · rename_i i z h2 h3
        split at ht
        · simp at ht
        · rename_i hsmall
          simp only [Option.some.injEq, Prod.mk.injEq] at ht
          obtain ⟨rfl, rfl, rfl⟩ := ht
          have hf := fill_eq _ pv _ cs hc
          have hsz : (sizeOf e').run P w = .ok i.size w := by simp [sizeOf, typeInfo, h2]
          have s1 : ¬ m * i.size > 2 ^ 24 := by omega
          simp only [Instr.buildSlice, Sem.run_bind, run_underlying h1, Result.andThen_ok, hsz]
          rw [if_neg s1]
          by_cases s2 : m * i.size = 0
          · rw [if_pos s2]
            rw [s2] at hf ⊢
            simp only [Sem.run_bind, Result.andThen_ok, Sem.run_pure, Array.toArray_toList] at hf ⊢
            have e0 : ((Array.range 0).map fun x => z.cells[x % z.cells.size]!) = (Array.range 0).map fun x => (#[] : Array Value)[x % (#[] : Array Value).size]! := by simp
            rw [e0] at hf
            rw [hf]
            rfl
          · rw [if_neg s2]
            simp only [Sem.run_bind, run_zero h3, Result.andThen_ok, Sem.run_pure, Array.toArray_toList] at hf ⊢
            rw [hf]
            rfl
      · simp at ht
    · simp at ht
  simp only [execOp, List.map_toArray, hp', Sem.run_bind, hrun, Result.andThen_ok, Sem.run_pure]
end
theorem layOk {P : Program} {ops : Array Oper} {n : Nat} {L : List (Nat × Value)} {S : List Lay} {s : Lay} {o : Oper} {Lo : List (Nat × Value)} (ho : ops[s.k]? = some o) (hd : o.dst = some s.d) (hg : o.guard = none) (hdf : isDefer o.op = false) (hn : Nat.blt s.d n = true)
    (hl : Lays P Lo o s.v s.obj) (hA : AllIn L Lo) (hx : ((S.map Lay.d).all fun x => (Lo.map Prod.fst).all fun y => !Nat.beq x y) = true) : LayOk P ops n L S s :=
  ⟨o, Lo, ho, hd, hg, hdf, hn, hl, hA, fun x hx2 q hq e => by
    have h1 := List.all_eq_true.1 hx x.d (List.mem_map.2 ⟨x, hx2, rfl⟩)
    have h2 := List.all_eq_true.1 h1 q.1 (List.mem_map.2 ⟨q, hq, rfl⟩)
    rw [e, show Nat.beq q.1 q.1 = true from by simp] at h2
    cases h2⟩
end Go.Sy
namespace Go.Sy
open Go Go.Proofs Go.RowKit
theorem inj_nodup {α β : Type} {f : α → β} : ∀ {S : List α}, (S.map f).Nodup → ∀ {a b : α}, a ∈ S → b ∈ S → f a = f b → a = b
  | [], _, _, _, h, _, _ => by cases h
  | x :: S, hn, a, b, ha, hb, e => by
    obtain ⟨h1, h2⟩ := List.nodup_cons.1 hn
    rcases List.mem_cons.1 ha with ha | ha
    · rcases List.mem_cons.1 hb with hb | hb
      · rw [ha, hb]
      · exact absurd (List.mem_map.2 ⟨b, hb, by rw [← e, ha]⟩) h1
    · rcases List.mem_cons.1 hb with hb | hb
      · exact absurd (List.mem_map.2 ⟨a, ha, by rw [e, hb]⟩) h1
      · exact inj_nodup h2 ha hb e
theorem nodup_map_on {α β : Type} {f : α → β} {T : List α} (hT : T.Nodup) (h : ∀ a ∈ T, ∀ b ∈ T, f a = f b → a = b) : (T.map f).Nodup :=
  List.pairwise_map.2 (hT.imp_of_mem fun ha hb hne e => hne (h _ ha _ hb e))
section
variable {P : Program} {r : Option Nat} {ops : Array Oper} {Cs : Cls} {Q : Act → World → Prop} {n : Nat} {t : OS} {ds : List Deferred} {L : List (Nat × Value)} {a : Act} {w w0 : World} {M : List Nat} {H : List (Nat × Obj)}
theorem lk_late {f : Lay → Nat × Value} {d : Nat} {v : Value} (x : Nat) : ∀ {T : List Lay}, (∀ s ∈ T, (f s).1 ≠ d) → lk (T.map f ++ (d, v) :: L) x = lk ((d, v) :: (T.map f ++ L)) x
  | [], _ => rfl
  | s :: T, h => by
    have h1 := h s (.head _)
    have ih := lk_late (v := v) x (T := T) fun s' hs => h s' (.tail _ hs)
    show lk ((f s) :: (T.map f ++ (d, v) :: L)) x = lk ((d, v) :: (f s) :: (T.map f ++ L)) x
    rcases hfs : f s with ⟨y, z⟩
    rw [hfs] at h1
    have h1 : y ≠ d := h1
    rw [lk, ih, lk, lk, lk]
    by_cases hd : x = d
    · subst hd
      rw [beq_ne h1]
      cases Nat.beq x x <;> rfl
    · rw [beq_ne (fun e => hd e.symm)]
      cases Nat.beq y x <;> rfl
theorem allIn_app {L : List (Nat × Value)} : ∀ {A B : List (Nat × Value)}, AllIn L A → AllIn L B → AllIn L (A ++ B)
  | [], _, _, h => h
  | (_, _) :: _, _, h, g => ⟨h.1, allIn_app h.2 g⟩
theorem allIn_mem {f : Lay → Nat × Value} {D : List Lay} (hn : (D.map fun s => (f s).1).Nodup) : ∀ {E : List Lay}, (∀ s ∈ E, s ∈ D) → AllIn (D.map f ++ L) (E.map f)
  | [], _ => True.intro
  | s :: E, h => by
    have h1 := lk_mem (L := L) (f := f) (h s (.head _)) hn
    show AllIn (D.map f ++ L) ((f s) :: E.map f)
    rcases hfs : f s with ⟨y, z⟩
    rw [hfs] at h1
    exact ⟨h1, allIn_mem hn fun s' hs => h s' (.tail _ hs)⟩
theorem ms_s2 {o : Oper} (S E : List Lay) (kd kk : Nat) (V : (Nat → Nat) → Value) (Lo : List (Nat × Value)) (hf : Fr n ds L a) (hh : Hp w0 M H w) (hS : ∀ s ∈ S, LayOk P ops n L S s) (hS2 : ∀ v, ∀ s ∈ S, LayOk P ops n ((kd, v) :: L) S s)
    (hkn : (S.map Lay.k).Nodup) (hdn : (kd :: S.map Lay.d).Nodup) (hP : ∀ i w w', Ext [] w w' → Pres Cs i w w') (hE : ∀ s ∈ E, s ∈ S) (ho : ops[kk]? = some o) (hd : o.dst = some kd) (hg : o.guard = none) (hn : Nat.blt kd n = true)
    (hA : AllIn L Lo) (hLo : ∀ x ∈ S, ∀ q ∈ Lo, x.d ≠ q.1) (hV : ∀ β β' : Nat → Nat, (∀ s ∈ E, β s.k = β' s.k) → V β = V β') (hy : ∀ β : Nat → Nat, Yv P (fun _ => True) (E.map (fun s => (s.d, s.v (β s.k))) ++ Lo) o (V β))
    (K : ∀ (β : Nat → Nat) (a : Act) (w : World), Fr n ds (S.map (fun s => (s.d, s.v (β s.k))) ++ (kd, V β) :: L) a → Hp w0 M (S.map (fun s => (β s.k, s.obj)) ++ H) w → MixS P r ops Cs Q t a w) : MixS P r ops Cs Q (.s2 (S.map Lay.k) (E.map Lay.k) kk t) a w := by
  obtain ⟨hkd, hdn⟩ := List.nodup_cons.1 hdn
  have hSn : S.Nodup := List.Pairwise.of_map Lay.k (fun a b h e => h (congrArg Lay.k e)) hkn
  have tn : ∀ {T : List Lay}, (T.map Lay.k).Nodup → T.Nodup := fun h => List.Pairwise.of_map Lay.k (fun a b h e => h (congrArg Lay.k e)) h
  have td : ∀ {T : List Lay}, (T.map Lay.k).Nodup → (∀ s ∈ T, s ∈ S) → (T.map Lay.d).Nodup := fun h hT => nodup_map_on (tn h) fun a ha b hb e => inj_nodup hdn (hT a ha) (hT b hb) e
  have step : ∀ {L' : List (Nat × Value)} {T : List Lay} {β : Nat → Nat} {s : Lay} {a : Act} {w : World} {Z : Act → World → Prop}, (∀ s ∈ S, LayOk P ops n L' S s) → s ∈ S → s.k ∉ T.map Lay.k → (∀ s ∈ T, s ∈ S) → Fr n ds (T.map (fun s => (s.d, s.v (β s.k))) ++ L') a → Hp w0 M (T.map (fun s => (β s.k, s.obj)) ++ H) w →
      (∀ (β' : Nat → Nat) (a : Act) (w : World), (∀ j, j ≠ s.k → β' j = β j) → Fr n ds ((s :: T).map (fun s => (s.d, s.v (β' s.k))) ++ L') a → Hp w0 M ((s :: T).map (fun s => (β' s.k, s.obj)) ++ H) w → Z a w) → EffC P r ops Cs s.k Z a w := by
    intro L' T β s a w Z hS hs hiD hT hf hh hK
    obtain ⟨o, Lo, ho, hd, hg, hdf, hn, hl, hA, hx⟩ := (hS s hs).ok
    have hag : Agree Lo a.eval := (hf.sub (allIn_skip hA fun x hx2 q hq => hx x (hT x hx2) q hq)).agree
    refine ms_e ho fun Q' => ?_
    refine opsW_value (GOn.wanted hf (.inl hg)) hdf (hl _ hag w) (ops_end (then_n ⟨hP _ _ _ (Ext.push w _), hK (fun j => if j = s.k then w.heap.size else β j) _ _ (fun j hj => if_neg hj) ?_ ?_⟩))
    · have e : T.map (fun x => (x.d, x.v (if x.k = s.k then w.heap.size else β x.k))) = T.map (fun x => (x.d, x.v (β x.k))) := List.map_congr_left fun x hx2 => by
        rw [if_neg fun e => hiD (by rw [← e]; exact List.mem_map.2 ⟨x, hx2, rfl⟩)]
      show Fr n ds ((s.d, s.v (if s.k = s.k then w.heap.size else β s.k)) :: (T.map (fun x => (x.d, x.v (if x.k = s.k then w.heap.size else β x.k))) ++ L')) _
      rw [if_pos rfl, e, hd]
      exact hf.put (blt_lt hn) _
    · have e : T.map (fun x => ((if x.k = s.k then w.heap.size else β x.k), x.obj)) = T.map (fun x => (β x.k, x.obj)) := List.map_congr_left fun x hx2 => by
        rw [if_neg fun e => hiD (by rw [← e]; exact List.mem_map.2 ⟨x, hx2, rfl⟩)]
      show Hp w0 M (((if s.k = s.k then w.heap.size else β s.k), s.obj) :: (T.map (fun x => ((if x.k = s.k then w.heap.size else β x.k), x.obj)) ++ H)) _
      rw [if_pos rfl, e]
      exact hh.alloc _
  refine ⟨fun D a w => ∃ (T : List Lay) (β : Nat → Nat), T.map Lay.k = D ∧ (∀ s ∈ T, s ∈ S) ∧ Fr n ds (T.map (fun s => (s.d, s.v (β s.k))) ++ L) a ∧ Hp w0 M (T.map (fun s => (β s.k, s.obj)) ++ H) w,
    fun D a w => ∃ (T : List Lay) (β : Nat → Nat), T.map Lay.k = D ∧ (∀ s ∈ T, s ∈ S) ∧ Fr n ds (T.map (fun s => (s.d, s.v (β s.k))) ++ (kd, V β) :: L) a ∧ Hp w0 M (T.map (fun s => (β s.k, s.obj)) ++ H) w, o, ho, ⟨[], fun _ => 0, rfl, fun s h => (nomatch h), hf, hh⟩, ?_, ?_, ?_, ?_⟩
  · rintro D i a w hi hiD _ _ ⟨T, β, rfl, hT, hf, hh⟩
    obtain ⟨s, hs, rfl⟩ := List.mem_map.1 hi
    exact step hS hs hiD hT hf hh fun β' a w _ hf hh => ⟨s :: T, β', rfl, fun x hx => by
      rcases List.mem_cons.1 hx with rfl | hx
      · exact hs
      · exact hT x hx, hf, hh⟩
  · rintro D a w hED hDn ⟨T, β, rfl, hT, hf, hh⟩
    have hET : ∀ s ∈ E, s ∈ T := fun s hs => by
      obtain ⟨x, hx, e⟩ := List.mem_map.1 (hED s.k (List.mem_map.2 ⟨s, hs, rfl⟩))
      rw [← inj_nodup hkn (hT x hx) (hE s hs) e]; exact hx
    have hag : Agree (E.map (fun s => (s.d, s.v (β s.k))) ++ Lo) a.eval := (hf.sub (allIn_app (allIn_mem (f := fun s : Lay => (s.d, s.v (β s.k))) (td hDn hT) hET) (allIn_skip hA fun x hx q hq => hLo x (hT x hx) q hq))).agree
    refine ⟨V β, .inl ⟨GOn.wanted hf (.inl hg), fun w hw => hy β _ hag w hw⟩, T, β, rfl, hT, ?_, hh⟩
    rw [hd]
    have h1 := hf.put (blt_lt hn) (V β)
    refine ⟨h1.size, h1.defers, fun t v ht => h1.get t v ?_⟩
    rw [← lk_late (f := fun s : Lay => (s.d, s.v (β s.k)))]
    · exact ht
    · exact fun s hs e => hkd (e ▸ List.mem_map.2 ⟨s, hT s hs, rfl⟩)
  · rintro D i a w hi hiD _ hED _ ⟨T, β, rfl, hT, hf, hh⟩
    obtain ⟨s, hs, rfl⟩ := List.mem_map.1 hi
    refine step (hS2 (V β)) hs hiD hT hf hh fun β' a w hβ hf hh => ⟨s :: T, β', rfl, fun x hx => by
      rcases List.mem_cons.1 hx with rfl | hx
      · exact hs
      · exact hT x hx, ?_, hh⟩
    rw [hV β' β fun x hx => hβ _ fun e => hiD (by rw [← e]; exact hED _ (List.mem_map.2 ⟨x, hx, rfl⟩))]
    exact hf
  · rintro D a w hD ⟨T, β, rfl, hT, hf, hh⟩
    have hTk : (T.map Lay.k).Nodup := hD.nodup_iff.2 hkn
    have hp : T.Perm S := perm_of_len hSn (tn hTk) hT (by
      have := hD.length_eq
      rw [List.length_map, List.length_map] at this; omega)
    refine K β a w ⟨hf.size, hf.defers, fun t v ht => hf.get t v ?_⟩ (hh.perm ((hp.map _).append_right _))
    rw [lk_perm (f := fun s : Lay => (s.d, s.v (β s.k))) hp (td hTk hT)]
    exact ht
theorem lo_ne {S : List Lay} {Lo : List (Nat × Value)} (hx : ((S.map Lay.d).all fun x => (Lo.map Prod.fst).all fun y => !Nat.beq x y) = true) : ∀ x ∈ S, ∀ q ∈ Lo, x.d ≠ q.1 := fun x hx2 q hq e => by
  have h1 := List.all_eq_true.1 hx x.d (List.mem_map.2 ⟨x, hx2, rfl⟩)
  have h2 := List.all_eq_true.1 h1 q.1 (List.mem_map.2 ⟨q, hq, rfl⟩)
  rw [e, show Nat.beq q.1 q.1 = true from by simp] at h2
  cases h2
end
end Go.Sy
namespace Go.Sy
open Go Go.Proofs Go.ChangeShapes Go.WideShapes Go.Deep
section
variable {P : Program} {H : Type} {enc : TypeId × Value → H} {W : World} {base : Nat} {spare : Nat → Bool} {held : Bool} {k : IntKind}
/-- Lists of numbers lie in memory, a slice for each. -/
def Flat2At (W : World) (k : IntKind) (sa : Option Addr) (l : List (List Int)) : Prop :=
  ∀ i p, l[i]? = some p → ∃ blk off c T fr sb cb, sa = some ⟨blk, off, none⟩ ∧ W.heap[blk]? = some (.cells c T fr) ∧ c[off + i]? = some (.slice sb p.length cb) ∧ FlatAt W k sb 1 (p.map fun z => [z])
theorem trod_slices2 {t s e : TypeId} {d fuel : Nat} {cs : List Value} {x : DataW H × List MemPlace} (ht : P.underlying t = some (.slice s)) (hs : P.underlying s = some (.slice e)) (hcs : P.cellsOf s = 1) (he : flK P k d e = some 1) (h : DataW.trod enc P W base spare held fuel t cs = some x) :
    ∃ (l : List (List Int)) (sa : Option Addr) (cap : Nat), cs = [.slice sa l.length cap] ∧ l.length ≤ maxLen ∧ (∀ p ∈ l, p.length ≤ maxLen ∧ ∀ a ∈ p, wfI k a) ∧ Flat2At W k sa l := by
  rcases open_slice ht h with ⟨e1, _⟩ | ⟨a, len, cap, m, n', D, Pl, e1, hb, hl, hm, hmm, _, hx⟩
  · exact ⟨[], none, 0, e1, Nat.zero_le _, by simp, fun i p hi => by simp at hi⟩
  · have hlm : len ≤ m := by rw [hmm]; split <;> omega
    have each : ∀ i, i < len → ∃ q : List Int × Option Addr × Nat, (q.1.length ≤ maxLen ∧ ∀ b ∈ q.1, wfI k b) ∧ W.cell? (a.add i) = some (.slice q.2.1 q.1.length q.2.2) ∧ FlatAt W k q.2.1 1 (q.1.map fun z => [z]) := fun i hi => by
      obtain ⟨cs', h1, h2⟩ := hx i (by omega)
      rw [hcs] at h1
      obtain ⟨l, sb, cb, h3, h4, h5, h6⟩ := trod_slices hs he (by omega) h2
      obtain ⟨p, rfl⟩ := flat1 (W := W) (sa := sb) (fun p hp => (h5 p hp).1)
      obtain ⟨_, _, hc⟩ := World.cells?_some h1
      have h7 := hc 0 (by omega)
      rw [h3, add_add, Nat.mul_one, Nat.add_zero] at h7
      refine ⟨(p, sb, cb), ⟨by simpa using h4, fun b hb => (h5 [b] (List.mem_map.2 ⟨b, hb, rfl⟩)).2 b (.head _)⟩, ?_, h6⟩
      rw [h7]; simp
    obtain ⟨F, hF⟩ : ∃ F : Nat → List Int × Option Addr × Nat, ∀ i, i < len → ((F i).1.length ≤ maxLen ∧ ∀ b ∈ (F i).1, wfI k b) ∧ W.cell? (a.add i) = some (.slice (F i).2.1 (F i).1.length (F i).2.2) ∧ FlatAt W k (F i).2.1 1 ((F i).1.map fun z => [z]) :=
      ⟨fun i => if hi : i < len then (each i hi).choose else ([], none, 0), fun i hi => by simp only [hi, dif_pos]; exact (each i hi).choose_spec⟩
    have hget : ∀ i p, ((List.range len).map fun i => (F i).1)[i]? = some p → i < len ∧ (F i).1 = p := fun i p hi => by
      rw [List.getElem?_map] at hi
      have hil : i < len := by
        rcases Nat.lt_or_ge i len with h | h
        · exact h
        · rw [List.getElem?_eq_none (by simpa using h)] at hi; cases hi
      rw [List.getElem?_range hil] at hi
      exact ⟨hil, Option.some.inj hi⟩
    refine ⟨(List.range len).map fun i => (F i).1, some a, cap, by simpa using e1, by simp; omega, fun p hp => ?_, fun i p hi => ?_⟩
    · obtain ⟨i, hi, rfl⟩ := List.mem_map.1 hp
      exact (hF i (List.mem_range.1 hi)).1
    · obtain ⟨hil, rfl⟩ := hget i p hi
      obtain ⟨_, h2, h3⟩ := hF i hil
      obtain ⟨blk, off, spot⟩ := a
      have hsp : spot = none := by
        cases spot with
        | none => rfl
        | some z =>
          have hv := (hF 0 (by omega)).2.1
          exact (add_spot_none (i := 0) hv).elim
      subst hsp
      rw [add_spot] at h2
      unfold World.cell? at h2
      simp only at h2
      cases hbk : W.heap[blk]? with
      | none => rw [hbk] at h2; simp at h2
      | some o =>
        rw [hbk] at h2
        cases o <;> simp at h2
        rename_i c T fr
        exact ⟨blk, off, c, T, fr, (F i).2.1, (F i).2.2, rfl, hbk, h2, h3⟩
end
end Go.Sy
namespace Go.Sy
open Go Go.Proofs
section
variable {P : Program} {L : List (Nat × Value)} {dd : Option Tmp} {ty : TypeId} {pos : String} {af : Array Edge} {gd : Option (Nat × Bool)} {w : World}
theorem yv_ldw {t : TypeId} {x : Operand} {b off : Nat} {c : Array Value} {e : TypeId} {fr : Nat × Nat} {v : Value} (ht : scalB P t = true) (hx : ev L x = some (ptr b off)) (hb : w.heap[b]? = some (.cells c e fr)) (hv : c[off]? = some v) : Yv P (fun z => z = w) L ⟨dd, .load t x, ty, pos, af, gd⟩ v :=
  yv_load (c := c) (e := e) (fr := fr) ht hx (fun z h => by rw [h]; exact hb) hv
variable {r : Option Nat} {all : Array Oper} {Q : Exit → Act → World → Prop} {rest : List Oper} {a : Act} {n d : Nat} {ds : List Deferred} {o : Oper} {v : Value}
theorem o_w (hf : Fr n ds L a) (y : Yv P (fun z => z = w) L o v) (k : ∀ a, Fr n ds ((d, v) :: L) a → OpsW P r all Q rest a w)
    (hg : GOn all L o := by first | exact .inl rfl | exact gon' rfl rfl rfl) (hnd : isDefer o.op = false := by rfl) (hd : o.dst = some d := by rfl) (hn : Nat.blt d n = true := by rfl) : OpsW P r all Q (o :: rest) a w := ops_v hf (C := fun z => z = w) rfl y hg hnd hd hn k
end
end Go.Sy
