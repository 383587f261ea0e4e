/- Lemmas, in order: Ranges over iterators with blocks of their own, where the rounds turn known blocks alone. What an iterator knows between two yields: its own blocks, and those that the rounds turn.. -/
import Derived.Test.YtidieepndphodaaGreatQ18
namespace Go.Sy
open Go Go.Proofs Go.RowKit
theorem Hp.others {w0 : World} {M O : List Nat} {H : List (Nat × Obj)} {v v' : World} (h : Hp w0 M H v) (e : Ext O v v') (hO : ∀ x ∈ O, x ∉ H.map Prod.fst ∧ (x ∈ M ∨ w0.heap.size ≤ x)) : Hp w0 M H v' := by
  refine ⟨⟨e.os.trans h.ext.os, e.tape.trans h.ext.tape, e.output.trans h.ext.output, Nat.le_trans h.ext.size e.size, fun k hk hm => ?_⟩, fun q hq => ?_, h.nodup, h.mine⟩
  · refine (e.block k (Nat.lt_of_lt_of_le hk h.ext.size) fun hx => ?_).trans (h.ext.block k hk hm)
    rcases (hO k hx).2 with h1 | h1
    · exact hm h1
    · omega
  · exact e.getM (h.get q hq) fun hx => (hO _ hx).1 (List.mem_map.2 ⟨q, hq, rfl⟩)
theorem Hp.comp {w0 : World} {M : List Nat} {H H' : List (Nat × Obj)} {v v' : World} (h : Hp w0 M H v) (h' : Hp v (H.map Prod.fst) H' v') : Hp w0 M H' v' := by
  have := Hp.swap (X := H) (X' := H') (Z := []) (by rw [List.append_nil]; exact h) h'
  rwa [List.append_nil] at this
section
variable {P : Program} {Q : Exit → Act → World → Prop} {a : Act} {w w0 : World} {M : List Nat} {H : List (Nat × Obj)} {n : Nat} {ds : List Deferred} {L : List (Nat × Value)}
theorem sy_rangeH {g : Operand} {ps : List Tmp} {asg body : Code} {f : FuncId} {fs cs : Array Value} {xs : List (Array Value)} {Mi : List Nat} {Own : List Nat → World → Prop} (I : Nat → List (Nat × Obj) → Prop) (X : Nat → Code → List (Nat × Obj) → Prop)
    (hf : Fr n ds L a) (hh : Hp w0 M H w) (hE : Enters P f) (hg : ev L g = some (.func (.func f) fs cs)) (it : IterF P f fs cs xs Mi Own) (hMi : ∀ x ∈ Mi, x ∈ M ∨ w0.heap.size ≤ x)
    (hps : (ps.all fun t => Nat.blt t n) = true) (hsz : ∀ x ∈ xs, x.size = ps.length)
    (hI0 : I 0 H) (hO0 : ∀ N' w', Ext [] w w' → Grows (H.map Prod.fst) N' w → Own N' w')
    (hround : ∀ k x fn D l H v a' tm, xs[k]? = some x → I k H → Hp w0 M H v → Hp v (l :: D :: H.map Prod.fst) ((l, .loop (rec0 fn tm ps.toArray asg body D .ready none)) :: (D, .deferred (some [])) :: H) v → Fr n [] (zipL ps.reverse x.toList.reverse ++ L) a' →
      WP P (some l) asg (Exit.then (Begun P l body (RoundEnd v (l :: D :: H.map Prod.fst) l (rec0 fn tm ps.toArray asg body D .busy none) D (I (k + 1)) (X k))) (fun _ _ _ => False)) a' v)
    (hdone : ∀ D H N' a v, I xs.length H → Own N' v → Fr n ({ target := .collected D, args := #[] } :: ds) L a → Hp w0 M ((D, .deferred (some [])) :: H) v → Q .normal a v)
    (hstop : ∀ k c D H N' a v, X k c H → Own N' v → Fr n ({ target := .collected D, args := #[] } :: ds) L a → Hp w0 M ((D, .deferred (some [])) :: H) v → WP P none c Q a v)
    (hOS : ∀ N v v' b, Own N v → b ∈ N → Ext [b] v v' → Own N v') :
    WP P none (.rangeFunc g ps.toArray asg body) Q a w := by
  have hlt : ∀ {H : List (Nat × Obj)} {v : World}, Hp w0 M H v → ∀ x ∈ H.map Prod.fst, x < v.heap.size := fun h x hx => by
    obtain ⟨q, hq, rfl⟩ := List.mem_map.1 hx
    exact (Array.getElem?_eq_some_iff.1 (h.get q hq)).1
  have hsz0 := hh.ext.size
  have keep : ∀ {H : List (Nat × Obj)} {v v' : World} {O : List Nat}, Hp w0 M H v → Ext O v v' → (∀ x ∈ O, x ∉ H.map Prod.fst ∧ (x ∈ Mi ∨ w.heap.size ≤ x)) → Hp w0 M H v' := fun h e hO =>
    h.others e fun x hx => ⟨(hO x hx).1, by
      rcases (hO x hx).2 with h1 | h1
      · exact hMi x h1
      · exact .inr (Nat.le_trans hsz0 h1)⟩
  have mark : ∀ {H : List (Nat × Obj)} {v : World} {D : Nat}, Hp w0 M H v → D ∉ H.map Prod.fst → v.heap[D]? = some (.deferred (some [])) → w.heap.size ≤ D → Hp w0 M ((D, .deferred (some [])) :: H) v := fun {H v D} h hD hv hs =>
    ⟨h.ext, fun q hq => by
      rcases List.mem_cons.1 hq with rfl | hq
      · exact hv
      · exact h.get q hq, by rw [List.map_cons, List.nodup_cons]; exact ⟨hD, h.nodup⟩, fun q hq => by
      rcases List.mem_cons.1 hq with rfl | hq
      · exact .inl (Nat.le_trans hsz0 hs)
      · exact h.mine q hq⟩
  refine sy_rangeG (fun k N v => ∃ H, I k H ∧ N = H.map Prod.fst ∧ Hp w0 M H v) (fun k c N v => ∃ H, X k c H ∧ N = H.map Prod.fst ∧ Hp w0 M H v) (H.map Prod.fst) hf hE hg it hps hsz ⟨H, hI0, rfl, hh⟩ hO0 ?_ ?_ ?_ ?_ ?_ ?_ ?_ hOS
  · rintro k N v ⟨H, _, rfl, h⟩; exact hlt h
  · rintro k c N v ⟨H, _, rfl, h⟩; exact hlt h
  · rintro k N v v' O ⟨H, h1, rfl, h⟩ e hO; exact ⟨H, h1, rfl, keep h e hO⟩
  · rintro k c N v v' O ⟨H, h1, rfl, h⟩ e hO; exact ⟨H, h1, rfl, keep h e hO⟩
  · rintro k x fn D l N v a' tm hx ⟨H, hI, rfl, h⟩ hr hl hD hwl hwD hf'
    have hv : Hp v (l :: D :: H.map Prod.fst) ((l, .loop (rec0 fn tm ps.toArray asg body D .ready none)) :: (D, .deferred (some [])) :: H) v := by
      refine ⟨.refl _ _, fun q hq => ?_, ?_, fun q hq => ?_⟩
      · rcases List.mem_cons.1 hq with rfl | hq
        · exact hr.get _ (.head _)
        · rcases List.mem_cons.1 hq with rfl | hq
          · exact hr.get _ (.tail _ (.head _))
          · exact h.get q hq
      · have := hr.nodup
        simp only [List.map_cons, List.map_nil, List.nodup_cons, List.mem_cons, not_or] at this ⊢
        exact ⟨⟨this.1.1, hl⟩, hD, h.nodup⟩
      · rcases List.mem_cons.1 hq with rfl | hq
        · exact .inr (.head _)
        · rcases List.mem_cons.1 hq with rfl | hq
          · exact .inr (.tail _ (.head _))
          · exact .inr (.tail _ (.tail _ (List.mem_map.2 ⟨q, hq, rfl⟩)))
    have fin : ∀ {H' : List (Nat × Obj)} {o : Obj} {v' : World}, Hp v (l :: D :: H.map Prod.fst) ((l, o) :: (D, .deferred (some [])) :: H') v' →
        Hp w0 M H' v' ∧ Grows (H.map Prod.fst) (H'.map Prod.fst) v ∧ Ext (l :: D :: H.map Prod.fst) v v' ∧ v'.heap[l]? = some o ∧ v'.heap[D]? = some (.deferred (some [])) ∧ l ∉ H'.map Prod.fst ∧ D ∉ H'.map Prod.fst := fun {H' o v'} h' => by
      have hn := h'.nodup
      simp only [List.map_cons, List.nodup_cons, List.mem_cons, not_or] at hn
      have hg : Grows (H.map Prod.fst) (H'.map Prod.fst) v := fun y hy => by
        obtain ⟨q, hq, rfl⟩ := List.mem_map.1 hy
        rcases h'.mine q (.tail _ (.tail _ hq)) with h1 | h1
        · exact .inr h1
        · rcases List.mem_cons.1 h1 with h1 | h1
          · exact absurd (h1 ▸ hy) hn.1.2
          · rcases List.mem_cons.1 h1 with h1 | h1
            · exact absurd (h1 ▸ hy) hn.2.1
            · exact .inl h1
      refine ⟨?_, hg, h'.ext, h'.get _ (.head _), h'.get _ (.tail _ (.head _)), hn.1.2, hn.2.1⟩
      refine ⟨⟨h'.ext.os.trans h.ext.os, h'.ext.tape.trans h.ext.tape, h'.ext.output.trans h.ext.output, Nat.le_trans h.ext.size h'.ext.size, fun k hk hm => ?_⟩, fun q hq => h'.get q (.tail _ (.tail _ hq)), hn.2.2, fun q hq => ?_⟩
      · refine (h'.ext.block k (Nat.lt_of_lt_of_le hk h.ext.size) fun hx => ?_).trans (h.ext.block k hk hm)
        rcases List.mem_cons.1 hx with rfl | hx
        · omega
        · rcases List.mem_cons.1 hx with rfl | hx
          · omega
          · obtain ⟨q, hq, rfl⟩ := List.mem_map.1 hx
            rcases h.mine q hq with h1 | h1
            · omega
            · exact hm h1
      · rcases hg q.1 (List.mem_map.2 ⟨q, hq, rfl⟩) with h1 | h1
        · obtain ⟨q', hq', e⟩ := List.mem_map.1 h1
          have := h.mine q' hq'
          rwa [e] at this
        · exact .inl (Nat.le_trans h.ext.size h1)
    refine wpIn_mono (hround k x fn D l H v a' tm hx hI h hv hf') fun e a1 v1 he => ?_
    cases e with
    | normal =>
      obtain ⟨v2, hb, hbody⟩ := he
      refine ⟨v2, hb, wpIn_mono hbody fun e a2 v3 h3 => ?_⟩
      cases e with
      | normal => obtain ⟨H', hI', h'⟩ := h3; obtain ⟨f1, f2, f3, f4, f5, f6, f7⟩ := fin h'; exact ⟨_, ⟨H', hI', rfl, f1⟩, f2, f3, f4, f5, f6, f7⟩
      | ret => obtain ⟨H', hI', h'⟩ := h3; obtain ⟨f1, f2, f3, f4, f5, f6, f7⟩ := fin h'; exact ⟨_, ⟨H', hI', rfl, f1⟩, f2, f3, f4, f5, f6, f7⟩
      | exit id => obtain ⟨H', hI', h'⟩ := h3; obtain ⟨f1, f2, f3, f4, f5, f6, f7⟩ := fin h'; exact ⟨_, ⟨H', hI', rfl, f1⟩, f2, f3, f4, f5, f6, f7⟩
      | goto t => exact h3.elim
      | panic c => exact h3.elim
      | outgrown => exact h3.elim
    | exit id => exact he.elim
    | goto t => exact he.elim
    | ret => exact he.elim
    | panic c => exact he.elim
    | outgrown => exact he.elim
  · rintro D N N' a v ⟨H, hI, rfl, h⟩ hOw hD hv hs hf'; exact hdone D H N' a v hI hOw hf' (mark h hD hv hs)
  · rintro k c D N N' a v ⟨H, hX, rfl, h⟩ hOw hD hv hs hf'; exact hstop k c D H N' a v hX hOw hf' (mark h hD hv hs)
end
end Go.Sy
namespace Go.Sy
open Go Go.Proofs Go.RowKit
theorem Hp.over {u v v' : World} {M O : List Nat} {H H' : List (Nat × Obj)} (h : Hp u M H v) (h' : Hp v O H' v') (hO : ∀ x ∈ O, x ∈ M ∨ u.heap.size ≤ x) : Hp u M H' v' := by
  refine ⟨⟨h'.ext.os.trans h.ext.os, h'.ext.tape.trans h.ext.tape, h'.ext.output.trans h.ext.output, Nat.le_trans h.ext.size h'.ext.size, fun k hk hm => ?_⟩, h'.get, h'.nodup, fun q hq => ?_⟩
  · refine (h'.ext.block k (Nat.lt_of_lt_of_le hk h.ext.size) fun hx => ?_).trans (h.ext.block k hk hm)
    rcases hO k hx with h1 | h1
    · exact hm h1
    · omega
  · rcases h'.mine q hq with h1 | h1
    · exact .inl (Nat.le_trans h.ext.size h1)
    · exact (hO _ h1).symm
theorem Hp.own {u w : World} {M : List Nat} {H : List (Nat × Obj)} (h : Hp u M H w) : Hp w (H.map Prod.fst) H w :=
  ⟨.refl _ _, h.get, h.nodup, fun q hq => .inr (List.mem_map.2 ⟨q, hq, rfl⟩)⟩
theorem Ext.chain {O O' : List Nat} {v v1 v' : World} (h : Ext O v v1) (h' : Ext O' v1 v') (hO : ∀ x ∈ O', x ∈ O ∨ v.heap.size ≤ x) : Ext O v v' :=
  ⟨h'.os.trans h.os, h'.tape.trans h.tape, h'.output.trans h.output, Nat.le_trans h.size h'.size, fun k hk hm => (h'.block k (Nat.lt_of_lt_of_le hk h.size) fun hx => by
    rcases hO k hx with h1 | h1
    · exact hm h1
    · omega).trans (h.block k hk hm)⟩
structure SyN (u : World) (Mi N0 N : List Nat) (H : List (Nat × Obj)) (w : World) : Prop where
  hp : Hp u (Mi ++ N0) H w
  gr : Grows N0 N u
  off : ∀ x ∈ N, x ∉ H.map Prod.fst
  loc : ∀ x ∈ H.map Prod.fst, x ∈ Mi ∨ u.heap.size ≤ x
  lt : ∀ x ∈ N, x < w.heap.size
section
variable {u w w' : World} {Mi N0 N N' O : List Nat} {H H' : List (Nat × Obj)}
theorem SyN.init (h : Hp u Mi H u) (hm : ∀ x ∈ N0, x ∉ H.map Prod.fst) (hl : ∀ x ∈ N0, x < u.heap.size) (hH : ∀ x ∈ H.map Prod.fst, x ∈ Mi) : SyN u Mi N0 N0 H u :=
  ⟨⟨.refl _ _, h.get, h.nodup, fun q hq => (h.mine q hq).imp id fun hx => List.mem_append_left _ hx⟩, .refl _ _, hm, fun x hx => .inl (hH x hx), hl⟩
/-- What the iterator does by itself. -/
theorem SyN.step (h : SyN u Mi N0 N H w) (h' : Hp w O H' w') (hO : ∀ x ∈ O, x ∈ H.map Prod.fst ∨ w.heap.size ≤ x) : SyN u Mi N0 N H' w' := by
  have hs := h.hp.ext.size
  have key : ∀ x ∈ H'.map Prod.fst, x ∈ H.map Prod.fst ∨ w.heap.size ≤ x := fun x hx => by
    obtain ⟨q, hq, rfl⟩ := List.mem_map.1 hx
    rcases h'.mine q hq with h1 | h1
    · exact .inr h1
    · exact hO _ h1
  refine ⟨h.hp.over h' fun x hx => ?_, h.gr, fun x hx hx' => ?_, fun x hx => ?_, fun x hx => Nat.lt_of_lt_of_le (h.lt x hx) h'.ext.size⟩
  · rcases hO x hx with h1 | h1
    · exact (h.loc x h1).imp (fun h2 => List.mem_append_left _ h2) id
    · exact .inr (Nat.le_trans hs h1)
  · rcases key x hx' with h1 | h1
    · exact h.off x hx h1
    · have := h.lt x hx; omega
  · rcases key x hx with h1 | h1
    · exact h.loc x h1
    · exact .inr (Nat.le_trans hs h1)
theorem SyN.side (h : SyN u Mi N0 N H w) (hO : ∀ x ∈ O, x ∈ H.map Prod.fst ∨ w.heap.size ≤ x) : ∀ x ∈ O, x ∉ N ∧ (x ∈ Mi ∨ u.heap.size ≤ x) := fun x hx => by
  rcases hO x hx with h1 | h1
  · exact ⟨fun h2 => h.off x h2 h1, h.loc x h1⟩
  · exact ⟨fun h2 => by have := h.lt x h2; omega, .inr (Nat.le_trans h.hp.ext.size h1)⟩
/-- What the round does. -/
theorem SyN.yield (h : SyN u Mi N0 N H w) (e : Ext N w w') (g : Grows N N' w) (hl : ∀ x ∈ N', x < w'.heap.size) : SyN u Mi N0 N' H w' := by
  refine ⟨h.hp.others e fun x hx => ⟨h.off x hx, (h.gr x hx).imp (fun h2 => List.mem_append_right _ h2) id⟩, h.gr.trans g h.hp.ext.size, fun x hx hx' => ?_, h.loc, hl⟩
  rcases g x hx with h1 | h1
  · exact h.off x h1 hx'
  · obtain ⟨q, hq, rfl⟩ := List.mem_map.1 hx'
    have := (Array.getElem?_eq_some_iff.1 (h.hp.get q hq)).1
    omega
theorem SyN.less (h : SyN u Mi N0 N H w) (hs : H'.Sublist H) : SyN u Mi N0 N H' w :=
  ⟨h.hp.less hs, h.gr, fun x hx hx' => h.off x hx ((hs.map Prod.fst).subset hx'), fun x hx => h.loc x ((hs.map Prod.fst).subset hx), h.lt⟩
theorem SyN.perm (h : SyN u Mi N0 N H w) (hs : H.Perm H') : SyN u Mi N0 N H' w :=
  ⟨h.hp.perm hs, h.gr, fun x hx hx' => h.off x hx ((hs.map Prod.fst).mem_iff.2 hx'), fun x hx => h.loc x ((hs.map Prod.fst).mem_iff.2 hx), h.lt⟩
/-- What others do, off the round's blocks and off one's own. -/
theorem SyN.others (h : SyN u Mi N0 N H w) (e : Ext O w w') (hO : ∀ x ∈ O, x ∉ H.map Prod.fst ∧ u.heap.size ≤ x) : SyN u Mi N0 N H w' :=
  ⟨h.hp.others e fun x hx => ⟨(hO x hx).1, .inr (hO x hx).2⟩, h.gr, h.off, h.loc, fun x hx => Nat.lt_of_lt_of_le (h.lt x hx) e.size⟩
theorem SyN.add (h : SyN u Mi N0 N H w) {b : Nat} {o : Obj} (hb : w.heap[b]? = some o) (hn : b ∉ N) (hH : b ∉ H.map Prod.fst) (hu : u.heap.size ≤ b) : SyN u Mi N0 N ((b, o) :: H) w := by
  refine ⟨⟨h.hp.ext, fun q hq => ?_, ?_, fun q hq => ?_⟩, h.gr, fun x hx hx' => ?_, fun x hx => ?_, h.lt⟩
  · rcases List.mem_cons.1 hq with rfl | hq
    · exact hb
    · exact h.hp.get q hq
  · rw [List.map_cons, List.nodup_cons]; exact ⟨hH, h.hp.nodup⟩
  · rcases List.mem_cons.1 hq with rfl | hq
    · exact .inl hu
    · exact h.hp.mine q hq
  · rw [List.map_cons, List.mem_cons] at hx'
    rcases hx' with rfl | hx'
    · exact hn hx
    · exact h.off x hx hx'
  · rw [List.map_cons, List.mem_cons] at hx
    rcases hx with rfl | hx
    · exact .inr hu
    · exact h.loc x hx
theorem SyN.old (h : SyN u Mi N0 N H w) {b : Nat} {o : Obj} (hb : u.heap[b]? = some o) (hn : b ∉ Mi ++ N0) : w.heap[b]? = some o := h.hp.oldM hb hn
theorem SyN.oldN (h : SyN u Mi N0 N H w) {b : Nat} {o : Obj} (hb : u.heap[b]? = some o) (hn : b ∉ Mi) : b ∉ H.map Prod.fst := fun hx => by
  have := (Array.getElem?_eq_some_iff.1 hb).1
  rcases h.loc _ hx with h1 | h1
  · exact hn h1
  · omega
theorem SyN.ltA (h : SyN u Mi N0 N H w) : ∀ x ∈ H.map Prod.fst ++ N, x < w.heap.size := fun x hx => by
  rcases List.mem_append.1 hx with hx | hx
  · obtain ⟨q, hq, rfl⟩ := List.mem_map.1 hx
    exact (Array.getElem?_eq_some_iff.1 (h.hp.get q hq)).1
  · exact h.lt x hx
theorem Hp.headEq {c c' : Array Value} {T : TypeId} {b : Nat} {M : List Nat} (h : Hp u M ((b, .cells c T) :: H) w) (e : c = c') : Hp u M ((b, .cells c' T) :: H) w := e ▸ h
/-- Where a round ends. -/
theorem SyN.round {l D : Nat} {o o' : Obj} {F NJ : List Nat} (h : SyN u (l :: D :: F) NJ N ((l, o) :: (D, o') :: H) w) :
    Grows (F ++ NJ) (H.map Prod.fst ++ N) u ∧ Ext (l :: D :: (F ++ NJ)) u w ∧ w.heap[l]? = some o ∧ w.heap[D]? = some o' ∧ l ∉ H.map Prod.fst ++ N ∧ D ∉ H.map Prod.fst ++ N := by
  have hn := h.hp.nodup
  simp only [List.map_cons, List.nodup_cons, List.mem_cons, not_or] at hn
  refine ⟨fun x hx => ?_, h.hp.ext, h.hp.get _ (.head _), h.hp.get _ (.tail _ (.head _)), fun hx => ?_, fun hx => ?_⟩
  · rcases List.mem_append.1 hx with hx | hx
    · rcases h.loc x (.tail _ (.tail _ hx)) with h1 | h1
      · rcases List.mem_cons.1 h1 with h1 | h1
        · exact absurd (h1 ▸ hx) hn.1.2
        · rcases List.mem_cons.1 h1 with h1 | h1
          · exact absurd (h1 ▸ hx) hn.2.1
          · exact .inl (List.mem_append_left _ h1)
      · exact .inr h1
    · exact (h.gr x hx).imp (fun h1 => List.mem_append_right _ h1) id
  · rcases List.mem_append.1 hx with hx | hx
    · exact hn.1.2 hx
    · exact h.off _ hx (.head _)
  · rcases List.mem_append.1 hx with hx | hx
    · exact hn.2.1 hx
    · exact h.off _ hx (.tail _ (.head _))
end
end Go.Sy
