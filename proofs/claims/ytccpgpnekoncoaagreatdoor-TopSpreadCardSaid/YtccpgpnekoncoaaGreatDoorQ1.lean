/- Lemmas, in order: The engine's ground: a goal on code as facts on frames and blocks; each operation one lemma.. -/
import Derived.RangeFuncNested
import Derived.RangeFuncLeaves
import Derived.Shelf.Abstract
import Derived.OrdersIn
import Derived.Deep.Quiet
import Derived.LoopNIn
import Derived.Below
import Derived.WalkKit
namespace Go.Sy
open Go Go.Proofs Go.RowKit

abbrev FR (r : Option Nat) : Fence := { fn := fun _ => True, depth := none, alive := false, round := r }

/-- The goal on code. -/
def WP (P : Program) (r : Option Nat) (c : Code) (Q : Exit → Act → World → Prop) (a : Act) (w : World) : Prop := c.wpIn (FR r) 0 P Q a w

/-- The call returned, and so. -/
def Ret (R : Value → World → Prop) : Ending → World → Prop
  | .returned v, w => R v w
  | _, _ => False

theorem depth_triv (r : Option Nat) (n : Nat) : (FR r).depth.isSome = true → 1 ≤ n := by simp

/-! ### Worlds -/
/-- w' is w with more blocks; of the old blocks none but those of M have turned. -/
structure Ext (M : List Nat) (w w' : World) : Prop where
  os : w'.os = w.os
  tape : w'.tape = w.tape
  output : w'.output = w.output
  size : w.heap.size ≤ w'.heap.size
  dr : w.drawn ≤ w'.drawn
  block : ∀ k, k < w.heap.size → k ∉ M → w'.heap[k]? = w.heap[k]?

theorem Ext.refl (M : List Nat) (w : World) : Ext M w w := ⟨rfl, rfl, rfl, Nat.le_refl _, Nat.le_refl _, fun _ _ _ => rfl⟩
theorem Ext.trans {M : List Nat} {a b c : World} (h : Ext M a b) (k : Ext M b c) : Ext M a c :=
  ⟨k.os.trans h.os, k.tape.trans h.tape, k.output.trans h.output, Nat.le_trans h.size k.size, Nat.le_trans h.dr k.dr, fun i hi hm => (k.block i (Nat.lt_of_lt_of_le hi h.size) hm).trans (h.block i hi hm)⟩
theorem Ext.mono {M M' : List Nat} {a b : World} (h : Ext M a b) (hm : ∀ x ∈ M, x ∈ M') : Ext M' a b :=
  ⟨h.os, h.tape, h.output, h.size, h.dr, fun i hi hn => h.block i hi (fun hx => hn (hm i hx))⟩
theorem Ext.get {w w' : World} {b : Nat} {o : Obj} (h : Ext [] w w') (hb : w.heap[b]? = some o) : w'.heap[b]? = some o :=
  (h.block b (Array.getElem?_eq_some_iff.1 hb).1 (by simp)).trans hb
theorem Ext.getM {M : List Nat} {w w' : World} {b : Nat} {o : Obj} (h : Ext M w w') (hb : w.heap[b]? = some o) (hm : b ∉ M) : w'.heap[b]? = some o :=
  (h.block b (Array.getElem?_eq_some_iff.1 hb).1 hm).trans hb
theorem Ext.drawn {M : List Nat} {w w' : World} (h : Ext M w w') (n : Nat) (hn : w'.drawn ≤ n := by exact Nat.le_succ _) : Ext M w { w' with drawn := n } := ⟨h.os, h.tape, h.output, h.size, Nat.le_trans h.dr hn, h.block⟩

/-- The symbolic heap: what is known since w0; the blocks of H hold just this, and may be written. -/
structure Hp (w0 : World) (M : List Nat) (H : List (Nat × Obj)) (w : World) : Prop where
  ext : Ext M w0 w
  get : ∀ p ∈ H, w.heap[p.1]? = some p.2
  nodup : (H.map Prod.fst).Nodup
  mine : ∀ p ∈ H, w0.heap.size ≤ p.1 ∨ p.1 ∈ M

theorem Hp.init (w : World) (M : List Nat) : Hp w M [] w := ⟨.refl _ _, by simp, by simp, by simp⟩

theorem Hp.drawn {w0 : World} {M : List Nat} {H : List (Nat × Obj)} {w : World} (h : Hp w0 M H w) (n : Nat) (hn : w.drawn ≤ n := by exact Nat.le_succ _) : Hp w0 M H { w with drawn := n } :=
  ⟨h.ext.drawn n hn, h.get, h.nodup, h.mine⟩

theorem Hp.at {w0 : World} {M : List Nat} {H : List (Nat × Obj)} {w : World} (h : Hp w0 M H w) {i b : Nat} {o : Obj} (hi : H[i]? = some (b, o)) : w.heap[b]? = some o :=
  h.get (b, o) (List.mem_of_getElem? hi)

theorem Hp.old {w0 : World} {H : List (Nat × Obj)} {w : World} (h : Hp w0 [] H w) {b : Nat} {o : Obj} (hb : w0.heap[b]? = some o) : w.heap[b]? = some o := h.ext.get hb
theorem Hp.oldM {w0 : World} {M : List Nat} {H : List (Nat × Obj)} {w : World} (h : Hp w0 M H w) {b : Nat} {o : Obj} (hb : w0.heap[b]? = some o) (hm : b ∉ M) : w.heap[b]? = some o := h.ext.getM hb hm

theorem Hp.alloc {w0 : World} {M : List Nat} {H : List (Nat × Obj)} {w : World} (h : Hp w0 M H w) (o : Obj) :
    Hp w0 M ((w.heap.size, o) :: H) { w with heap := w.heap.push o } := by
  have hs : w0.heap.size ≤ w.heap.size := h.ext.size
  refine ⟨⟨h.ext.os, h.ext.tape, h.ext.output, by simp; omega, h.ext.dr, fun k hk hm => ?_⟩, ?_, ?_, ?_⟩
  · show (w.heap.push o)[k]? = _
    rw [Array.getElem?_push, if_neg (by omega)]; exact h.ext.block k hk hm
  · intro p hp
    rcases List.mem_cons.1 hp with rfl | hp
    · show (w.heap.push o)[w.heap.size]? = _; simp
    · have h1 := h.get p hp
      have h2 := (Array.getElem?_eq_some_iff.1 h1).1
      show (w.heap.push o)[p.1]? = _
      rw [Array.getElem?_push, if_neg (by omega)]; exact h1
  · simp only [List.map_cons, List.nodup_cons]
    refine ⟨fun hm => ?_, h.nodup⟩
    obtain ⟨p, hp, e⟩ := List.mem_map.1 hm
    have h2 := (Array.getElem?_eq_some_iff.1 (h.get p hp)).1
    omega
  · intro p hp
    rcases List.mem_cons.1 hp with rfl | hp
    · exact .inl hs
    · exact h.mine p hp

theorem nodup_fst_idx {H : List (Nat × Obj)} (hn : (H.map Prod.fst).Nodup) {i j : Nat} {b : Nat} {o o' : Obj} (hi : H[i]? = some (b, o)) (hj : H[j]? = some (b, o')) : i = j := by
  have hi' : (H.map Prod.fst)[i]? = some b := by rw [List.getElem?_map, hi]; rfl
  have hj' : (H.map Prod.fst)[j]? = some b := by rw [List.getElem?_map, hj]; rfl
  obtain ⟨h1, e1⟩ := List.getElem?_eq_some_iff.1 hi'
  obtain ⟨h2, e2⟩ := List.getElem?_eq_some_iff.1 hj'
  exact (List.getElem_inj hn).1 (e1.trans e2.symm)

/-- A known block turned. -/
theorem Hp.turn {w0 : World} {M : List Nat} {H : List (Nat × Obj)} {w w' : World} (h : Hp w0 M H w) {i b : Nat} {o o' : Obj} (hi : H[i]? = some (b, o))
    (e : Ext [b] w w') (hb : w'.heap[b]? = some o') : Hp w0 M (H.set i (b, o')) w' := by
  have hmb : w0.heap.size ≤ b ∨ b ∈ M := h.mine (b, o) (List.mem_of_getElem? hi)
  refine ⟨⟨e.os.trans h.ext.os, e.tape.trans h.ext.tape, e.output.trans h.ext.output, Nat.le_trans h.ext.size e.size, Nat.le_trans h.ext.dr e.dr, fun k hk hm => ?_⟩, ?_, ?_, ?_⟩
  · have : k ≠ b := by rintro rfl; rcases hmb with h' | h' <;> first | omega | exact hm h'
    exact (e.block k (Nat.lt_of_lt_of_le hk h.ext.size) (by simpa using this)).trans (h.ext.block k hk hm)
  · intro p hp
    obtain ⟨j, hj, e1⟩ := List.getElem_of_mem hp
    rw [List.getElem_set] at e1
    split at e1
    · subst e1; exact hb
    · rename_i hne
      have hj' : j < H.length := by simpa using hj
      have hp' : H[j]? = some p := by rw [List.getElem?_eq_getElem hj']; exact congrArg some e1
      have hpb : p.1 ≠ b := fun hb' => hne (nodup_fst_idx h.nodup hi (o' := p.2) (by rw [hp']; cases p; simp at hb'; simp [hb']))
      have h1 := h.get p (List.mem_of_getElem? hp')
      exact (e.block p.1 (Array.getElem?_eq_some_iff.1 h1).1 (by simpa using hpb)).trans h1
  · have : (H.set i (b, o')).map Prod.fst = H.map Prod.fst := by
      apply List.ext_getElem?
      intro j
      rw [List.getElem?_map, List.getElem?_map, List.getElem?_set]
      split
      · rename_i hij; subst hij
        split
        · simp [hi]
        · rename_i hl; simp [List.getElem?_eq_none (by omega : H.length ≤ i)]
      · rfl
    rw [this]; exact h.nodup
  · intro p hp
    obtain ⟨j, hj, e1⟩ := List.getElem_of_mem hp
    rw [List.getElem_set] at e1
    split at e1
    · subst e1; exact hmb
    · exact h.mine p (by rw [← e1]; exact List.getElem_mem _)

/-- Something that only laid new blocks. -/
theorem Hp.more {w0 : World} {M : List Nat} {H : List (Nat × Obj)} {w w' : World} (h : Hp w0 M H w) (e : Ext [] w w') : Hp w0 M H w' :=
  ⟨h.ext.trans (e.mono (by simp)), fun p hp => e.get (h.get p hp), h.nodup, h.mine⟩

/-- Fewer facts. -/
theorem Hp.less {w0 : World} {M : List Nat} {H : List (Nat × Obj)} {w : World} (h : Hp w0 M H w) {H' : List (Nat × Obj)} (hs : H'.Sublist H) : Hp w0 M H' w :=
  ⟨h.ext, fun p hp => h.get p (hs.subset hp), (hs.map Prod.fst).nodup h.nodup, fun p hp => h.mine p (hs.subset hp)⟩

/-! ### Frames -/
theorem beq_ne {s t : Nat} (h : ¬ s = t) : Nat.beq s t = false := Bool.eq_false_iff.2 fun e => h (Nat.eq_of_beq_eq_true e)
theorem blt_lt {d n : Nat} (h : Nat.blt d n = true) : d < n := Nat.le_of_ble_eq_true h
def lk : List (Nat × Value) → Nat → Option Value
  | [], _ => none
  | (s, v) :: L, t => bif Nat.beq s t then some v else lk L t

def ev (L : List (Nat × Value)) : Operand → Option Value
  | .tmp t => lk L t
  | .const v => some v
  | .global g => some (.pointer (some ⟨g, 0, none⟩))
  | .func f => some (.func (.func f) #[] #[])

structure Fr (n : Nat) (ds : List Deferred) (L : List (Nat × Value)) (a : Act) : Prop where
  size : a.tmps.size = n
  defers : a.defers = ds
  get : ∀ t v, lk L t = some v → a.tmps.getD t undef = v

def Agree (L : List (Nat × Value)) (ρ : Operand → Value) : Prop := ∀ x v, ev L x = some v → ρ x = v

theorem Fr.agree {n : Nat} {ds : List Deferred} {L : List (Nat × Value)} {a : Act} (h : Fr n ds L a) : Agree L a.eval := by
  intro x v hx
  cases x with
  | tmp t => exact h.get t v hx
  | const v' => simpa [ev, Act.eval] using hx
  | global g => simpa [ev, Act.eval] using hx
  | func f => simpa [ev, Act.eval] using hx

theorem Fr.put {n : Nat} {ds : List Deferred} {L : List (Nat × Value)} {a : Act} (h : Fr n ds L a) {d : Nat} (hd : d < n) (v : Value) : Fr n ds ((d, v) :: L) (a.put (some d) v) := by
  refine ⟨by simp [Act.put, h.size], by simp [Act.put, h.defers], fun t u hu => ?_⟩
  simp only [lk] at hu
  by_cases ht : d = t
  · subst ht
    simp at hu
    simp [Act.put, h.size, hd, hu]
  · rw [beq_ne ht, cond_false] at hu
    have := h.get t u hu
    rw [Array.getD_eq_getD_getElem?] at this ⊢
    simp only [Act.put]
    rw [Array.getElem?_setIfInBounds_ne ht]
    exact this

def AllIn (L : List (Nat × Value)) : List (Nat × Value) → Prop
  | [] => True
  | (t, v) :: K => lk L t = some v ∧ AllIn L K

theorem AllIn.get {L : List (Nat × Value)} : ∀ {K : List (Nat × Value)}, AllIn L K → ∀ t v, lk K t = some v → lk L t = some v
  | [], _, t, v, h => by simp [lk] at h
  | (s, u) :: K, ⟨h1, h2⟩, t, v, h => by
    simp only [lk] at h
    by_cases hs : s = t
    · subst hs; simp at h; rw [← h]; exact h1
    · rw [beq_ne hs, cond_false] at h; exact h2.get t v h

theorem Fr.sub {n : Nat} {ds : List Deferred} {L K : List (Nat × Value)} {a : Act} (h : Fr n ds L a) (hk : AllIn L K) : Fr n ds K a :=
  ⟨h.size, h.defers, fun t v ht => h.get t v (hk.get t v ht)⟩

/-- The frame in which a call begins. -/
def argL : Nat → List Value → List (Nat × Value)
  | _, [] => []
  | i, v :: vs => (i, v) :: argL (i + 1) vs

theorem lk_argL : ∀ (vs : List Value) (i t : Nat) (v : Value), lk (argL i vs) t = some v → i ≤ t ∧ vs[t - i]? = some v
  | [], _, _, _, h => by simp [argL, lk] at h
  | u :: vs, i, t, v, h => by
    simp only [argL, lk] at h
    by_cases hs : i = t
    · subst hs; simp at h; simp [h]
    · rw [beq_ne hs, cond_false] at h
      obtain ⟨h1, h2⟩ := lk_argL vs (i + 1) t v h
      refine ⟨by omega, ?_⟩
      rw [show t - i = (t - (i + 1)) + 1 by omega]
      simpa using h2

theorem Fr.enter (vs : List Value) (n : Nat) (hn : vs.length ≤ n) : Fr n [] (argL 0 vs) { tmps := vs.toArray ++ Array.replicate (n - vs.toArray.size) undef, defers := [] } := by
  refine ⟨by simp; omega, rfl, fun t v h => ?_⟩
  obtain ⟨_, h2⟩ := lk_argL vs 0 t v h
  rw [Nat.sub_zero] at h2
  obtain ⟨h3, h4⟩ := List.getElem?_eq_some_iff.1 h2
  rw [Array.getD_eq_getD_getElem?, Array.getElem?_append_left (by simpa using h3)]
  simp [h2]

/-! ### Operations, one behind the other -/
def OpsW (P : Program) (r : Option Nat) (all : Array Oper) (Q : Exit → Act → World → Prop) : List Oper → Act → World → Prop
  | [], a, w => Q .normal a w
  | o :: rest, a, w => if Region.wanted o (yielded all a.tmps) then o.wpIn (FR r) 0 P a w (OpsW P r all Q rest) Q else OpsW P r all Q rest (a.put o.dst undef) w

theorem wpIn_imp {P : Program} {r : Option Nat} {o : Oper} {a : Act} {w : World} {K K' : Act → World → Prop} {Q : Exit → Act → World → Prop} (h : ∀ a w, K a w → K' a w)
    (hh : o.wpIn (FR r) 0 P a w K Q) : o.wpIn (FR r) 0 P a w K' Q := Oper.wpIn_mono h hh

theorem opsW_sound {P : Program} {r : Option Nat} {ops : Array Oper} {Q : Exit → Act → World → Prop} : ∀ (l : List Oper) (k : Nat) (a : Act) (w : World), (∀ j, j < l.length → l[j]? = ops[k + j]?) →
    OpsW P r ops Q l a w → wpOpsIn (FR r) 0 P ops Q (List.range' k l.length) a w
  | [], _, _, _, _, h => by simpa [OpsW, wpOpsIn] using h
  | o :: l, k, a, w, hl, h => by
    have h0 : ops[k]? = some o := by simpa using (hl 0 (by simp)).symm
    have ih := fun a w => opsW_sound (P := P) (r := r) (Q := Q) l (k + 1) a w (fun j hj => by have := hl (j + 1) (by simpa using hj); simpa [Nat.add_assoc, Nat.add_comm 1 j] using this)
    simp only [List.length_cons, List.range'_succ, wpOpsIn, h0]
    simp only [OpsW] at h
    split at h
    · rename_i hw; rw [if_pos hw]; exact wpIn_imp ih h
    · rename_i hw; rw [if_neg hw]; exact ⟨fun _ _ => trivial, ih _ _ h⟩

theorem sy_ops {P : Program} {r : Option Nat} {id : Nat} {l : List Oper} {Q : Exit → Act → World → Prop} {a : Act} {w : World} (h : OpsW P r l.toArray Q l a w) : WP P r (.region id l.toArray false) Q a w := by
  refine wpIn_region ?_
  have := opsW_sound (P := P) (r := r) (Q := Q) (ops := l.toArray) l 0 a w (fun j _ => by simp) h
  simpa [List.range_eq_range'] using this

def isDefer : Op → Bool
  | .defer _ => true
  | _ => false

theorem semAt_of {r : Option Nat} {ρ : Operand → Value} {o : Oper} (h : isDefer o.op = false) : o.semAt r ρ = execOp ρ o :=
  Oper.semAt_eq r ρ o fun c hc => by rw [hc] at h; simp [isDefer] at h

theorem opsW_value {P : Program} {r : Option Nat} {all : Array Oper} {Q : Exit → Act → World → Prop} {o : Oper} {rest : List Oper} {a : Act} {w w' : World} {v : Value}
    (hg : Region.wanted o (yielded all a.tmps) = true) (hd : isDefer o.op = false) (h : (execOp a.eval o).run P w = .ok (.value v) w') (k : OpsW P r all Q rest (a.put o.dst v) w') : OpsW P r all Q (o :: rest) a w := by
  simp only [OpsW, hg, if_true, Oper.wpIn, semAt_of hd]
  rw [h]; exact ⟨fun _ _ => trivial, k⟩

theorem opsW_skip {P : Program} {r : Option Nat} {all : Array Oper} {Q : Exit → Act → World → Prop} {o : Oper} {rest : List Oper} {a : Act} {w w' : World}
    (hg : Region.wanted o (yielded all a.tmps) = true) (hd : isDefer o.op = false) (h : (execOp a.eval o).run P w = .ok .skip w') (k : OpsW P r all Q rest (a.put o.dst undef) w') : OpsW P r all Q (o :: rest) a w := by
  simp only [OpsW, hg, if_true, Oper.wpIn, semAt_of hd]
  rw [h]; exact ⟨fun _ _ => trivial, k⟩

theorem opsW_enter {P : Program} {r : Option Nat} {all : Array Oper} {Q : Exit → Act → World → Prop} {o : Oper} {rest : List Oper} {a : Act} {w w' : World} {f : FuncId} {args : Array Value} {R : Value → World → Prop}
    (hg : Region.wanted o (yielded all a.tmps) = true) (hd : isDefer o.op = false) (h : (execOp a.eval o).run P w = .ok (.enter f args) w')
    (hc : CallsIn (FR r) 0 P f args w' (Ret R)) (k : ∀ v w'', R v w'' → OpsW P r all Q rest (a.put o.dst v) w'') : OpsW P r all Q (o :: rest) a w := by
  simp only [OpsW, hg, if_true, Oper.wpIn, semAt_of hd]
  rw [h]
  exact ⟨fun _ _ => trivial, depth_triv r 0, hc.mono fun e w'' he => by cases e <;> first | exact k _ _ he | exact he.elim⟩

/-- The guard of an operation: none, or one that lets it. -/
def GOn (all : Array Oper) (L : List (Nat × Value)) (o : Oper) : Prop :=
  o.guard = none ∨ ∃ j b t, o.guard = some (j, b) ∧ (all[j]?).bind (·.dst) = some t ∧ lk L t = some (.bool b)
def GOff (all : Array Oper) (L : List (Nat × Value)) (o : Oper) : Prop :=
  ∃ j b t, o.guard = some (j, b) ∧ (all[j]?).bind (·.dst) = some t ∧ (lk L t = some undef ∨ ∃ c, lk L t = some (.bool c) ∧ c ≠ b)

theorem yielded_of {all : Array Oper} {n : Nat} {ds : List Deferred} {L : List (Nat × Value)} {a : Act} (hf : Fr n ds L a) {j t : Nat} {c : Bool} (h2 : (all[j]?).bind (·.dst) = some t) (h3 : lk L t = some (.bool c)) :
    yielded all a.tmps j = some c := by
  have h4 := hf.get t _ h3
  unfold yielded
  rw [h2]
  simp only [Option.bind_some]
  rw [Array.getD_eq_getD_getElem?] at h4
  cases h5 : a.tmps[t]? with
  | none => rw [h5] at h4; simp [undef] at h4
  | some u => rw [h5] at h4; simp at h4; subst h4; rfl

theorem yielded_undef {all : Array Oper} {n : Nat} {ds : List Deferred} {L : List (Nat × Value)} {a : Act} (hf : Fr n ds L a) {j t : Nat} (h2 : (all[j]?).bind (·.dst) = some t) (h3 : lk L t = some undef) :
    yielded all a.tmps j = none := by
  have h4 := hf.get t _ h3
  unfold yielded
  rw [h2]
  simp only [Option.bind_some]
  rw [Array.getD_eq_getD_getElem?] at h4
  cases h5 : a.tmps[t]? with
  | none => rfl
  | some u => rw [h5] at h4; simp at h4; subst h4; rfl

theorem GOn.wanted {all : Array Oper} {n : Nat} {ds : List Deferred} {L : List (Nat × Value)} {a : Act} {o : Oper} (hf : Fr n ds L a) (h : GOn all L o) : Region.wanted o (yielded all a.tmps) = true := by
  rcases h with h | ⟨j, b, t, h1, h2, h3⟩
  · simp [Region.wanted, h]
  · simp [Region.wanted, h1, yielded_of hf h2 h3]
theorem GOff.wanted {all : Array Oper} {n : Nat} {ds : List Deferred} {L : List (Nat × Value)} {a : Act} {o : Oper} (hf : Fr n ds L a) (h : GOff all L o) : Region.wanted o (yielded all a.tmps) = false := by
  obtain ⟨j, b, t, h1, h2, h3 | ⟨c, h3, h4⟩⟩ := h
  · simp [Region.wanted, h1, yielded_undef hf h2 h3]
  · simp [Region.wanted, h1, yielded_of hf h2 h3, h4]

/-- The operation yields v, in whatever world of a class. -/
def Yv (P : Program) (C : World → Prop) (L : List (Nat × Value)) (o : Oper) (v : Value) : Prop :=
  ∀ ρ, Agree L ρ → ∀ w, C w → (execOp ρ o).run P w = .ok (.value v) w

section
variable {P : Program} {r : Option Nat} {all : Array Oper} {Q : Exit → Act → World → Prop} {o : Oper} {rest : List Oper} {a : Act} {w : World} {n : Nat} {ds : List Deferred} {L : List (Nat × Value)} {C : World → Prop} {v : Value} {d : Nat}

theorem ops_v (hf : Fr n ds L a) (hC : C w) (y : Yv P C L o v) (hg : GOn all L o) (hnd : isDefer o.op = false) (hd : o.dst = some d) (hn : Nat.blt d n = true)
    (k : ∀ a, Fr n ds ((d, v) :: L) a → OpsW P r all Q rest a w) : OpsW P r all Q (o :: rest) a w := by
  refine opsW_value (hg.wanted hf) hnd (y _ hf.agree w hC) ?_
  rw [hd]; exact k _ (hf.put (blt_lt hn) v)

theorem ops_off (hf : Fr n ds L a) (hg : GOff all L o) (hd : o.dst = some d) (hn : Nat.blt d n = true)
    (k : ∀ a, Fr n ds ((d, undef) :: L) a → OpsW P r all Q rest a w) : OpsW P r all Q (o :: rest) a w := by
  simp only [OpsW]
  rw [if_neg (by simp [hg.wanted hf]), hd]
  exact k _ (hf.put (blt_lt hn) undef)

/-- The same in a region whose order is open. -/
theorem q_v {Q : Act → Prop} (hf : Fr n ds L a) (y : Yv P C L o v) (hg : GOn all L o) (hd : o.dst = some d) (hn : Nat.blt d n = true)
    (k : ∀ a, Fr n ds ((d, v) :: L) a → wpQuiet P all C Q rest a) : wpQuiet P all C Q (o :: rest) a := by
  simp only [wpQuiet, hg.wanted hf, if_true]
  refine ⟨v, fun w hw => ?_, ?_⟩
  · unfold Oper.quietAt; rw [y _ hf.agree w hw]; exact ⟨rfl, rfl⟩
  · rw [hd]; exact k _ (hf.put (blt_lt hn) v)

theorem q_off {Q : Act → Prop} (hf : Fr n ds L a) (hg : GOff all L o) (hd : o.dst = some d) (hn : Nat.blt d n = true)
    (k : ∀ a, Fr n ds ((d, undef) :: L) a → wpQuiet P all C Q rest a) : wpQuiet P all C Q (o :: rest) a := by
  simp only [wpQuiet]
  rw [if_neg (by simp [hg.wanted hf]), hd]
  exact k _ (hf.put (blt_lt hn) undef)

theorem q_end {Q : Act → Prop} (h : Q a) : wpQuiet P all C Q [] a := h
theorem ops_end (h : Q .normal a w) : OpsW P r all Q [] a w := h
end

/-! ### Operations that look at no world -/
section
variable {P : Program} {C : World → Prop} {L : List (Nat × Value)} {dd : Option Tmp} {ty : TypeId} {pos : String} {af : Array Edge} {gd : Option (Nat × Bool)}

theorem yv_move {x : Operand} {v : Value} (h : ev L x = some v) : Yv P C L ⟨dd, .move x, ty, pos, af, gd⟩ v := fun ρ hρ w _ => by simp [execOp, hρ _ _ h]
theorem yv_assign {x : Operand} {v : Value} (h : ev L x = some v) : Yv P C L ⟨dd, .assign x, ty, pos, af, gd⟩ v := fun ρ hρ w _ => by simp [execOp, hρ _ _ h]

theorem yv_pick_t {c x y : Operand} {b : Bool} {u : Value} (hc : ev L c = some (.bool b)) (hb : b = true) (hx : ev L x = some u) :
    Yv P C L ⟨dd, .pick c x y, ty, pos, af, gd⟩ u := fun ρ hρ w _ => by
  subst hb; simp [execOp, hρ _ _ hc, hρ _ _ hx, asBool]
theorem yv_pick_f {c x y : Operand} {b : Bool} {u : Value} (hc : ev L c = some (.bool b)) (hb : b = false) (hy : ev L y = some u) :
    Yv P C L ⟨dd, .pick c x y, ty, pos, af, gd⟩ u := fun ρ hρ w _ => by
  subst hb; simp [execOp, hρ _ _ hc, hρ _ _ hy, asBool]

/-- What an operation on two integers gives. -/
def binV (op : BinOp) (k : IntKind) (p q : Int) : Option Value :=
  match op with
  | .add => some (.int k (k.wrap (p + q)))
  | .sub => some (.int k (k.wrap (p - q)))
  | .mul => some (.int k (k.wrap (p * q)))
  | .and => some (.int k (k.wrap (BitVec.ofInt k.bits p &&& BitVec.ofInt k.bits q).toNat))
  | .or => some (.int k (k.wrap (BitVec.ofInt k.bits p ||| BitVec.ofInt k.bits q).toNat))
  | .xor => some (.int k (k.wrap (BitVec.ofInt k.bits p ^^^ BitVec.ofInt k.bits q).toNat))
  | .andNot => some (.int k (k.wrap (BitVec.ofInt k.bits p &&& ~~~BitVec.ofInt k.bits q).toNat))
  | .eql => some (.bool (decide (p = q)))
  | .neq => some (.bool (!decide (p = q)))
  | .lss => some (.bool (decide (p < q)))
  | .leq => some (.bool (decide (p ≤ q)))
  | .gtr => some (.bool (decide (q < p)))
  | .geq => some (.bool (decide (q ≤ p)))
  | _ => none

theorem run_eqGuard_int (op : BinOp) (t : TypeId) (x y : Operand) (k k' : IntKind) (p q : Int) (w : World) : (eqGuard op t x y (.int k p) (.int k' q)).run P w = .ok () w := by
  cases op <;> simp [eqGuard]

theorem yv_bin {op : BinOp} {t t' : TypeId} {x y : Operand} {k : IntKind} {p q : Int} {v : Value} (hx : ev L x = some (.int k p)) (hy : ev L y = some (.int k q)) (hv : binV op k p q = some v) :
    Yv P C L ⟨dd, .binOp op t x y t', ty, pos, af, gd⟩ v := fun ρ hρ w _ => by
  simp only [execOp, hρ _ _ hx, hρ _ _ hy]
  cases op <;> simp only [binV, Option.some.injEq, reduceCtorEq] at hv <;> subst hv <;>
    simp [run_eqGuard_int, binOp, Op.intArith, Op.intBits, Op.intCmp] <;> rfl

theorem wrap_i64 {n : Int} (h1 : -9223372036854775808 ≤ n) (h2 : n ≤ 9223372036854775807) : IntKind.i64.wrap n = n := by
  simp only [IntKind.wrap, IntKind.signed, IntKind.bits]
  simp
  omega
theorem wrap_u64 {n : Int} (h1 : 0 ≤ n) (h2 : n ≤ 18446744073709551615) : IntKind.u64.wrap n = n := by
  simp only [IntKind.wrap, IntKind.signed, IntKind.bits]
  simp
  omega

theorem yv_add {t t' : TypeId} {x y : Operand} {p q : Int} (hx : ev L x = some (.int .i64 p)) (hy : ev L y = some (.int .i64 q)) (h1 : -9223372036854775808 ≤ p + q) (h2 : p + q ≤ 9223372036854775807) :
    Yv P C L ⟨dd, .binOp .add t x y t', ty, pos, af, gd⟩ (.int .i64 (p + q)) := yv_bin hx hy (by simp [binV, wrap_i64 h1 h2])
theorem yv_sub {t t' : TypeId} {x y : Operand} {p q : Int} (hx : ev L x = some (.int .i64 p)) (hy : ev L y = some (.int .i64 q)) (h1 : -9223372036854775808 ≤ p - q) (h2 : p - q ≤ 9223372036854775807) :
    Yv P C L ⟨dd, .binOp .sub t x y t', ty, pos, af, gd⟩ (.int .i64 (p - q)) := yv_bin hx hy (by simp [binV, wrap_i64 h1 h2])
theorem yv_mul {t t' : TypeId} {x y : Operand} {p q : Int} (hx : ev L x = some (.int .i64 p)) (hy : ev L y = some (.int .i64 q)) (h1 : -9223372036854775808 ≤ p * q) (h2 : p * q ≤ 9223372036854775807) :
    Yv P C L ⟨dd, .binOp .mul t x y t', ty, pos, af, gd⟩ (.int .i64 (p * q)) := yv_bin hx hy (by simp [binV, wrap_i64 h1 h2])

theorem yv_quo {t t' : TypeId} {x y : Operand} {p q : Int} (hx : ev L x = some (.int .i64 p)) (hy : ev L y = some (.int .i64 q)) (h0 : 0 ≤ p) (hq : 1 ≤ q) (h2 : p ≤ 9223372036854775807) :
    Yv P C L ⟨dd, .binOp .quo t x y t', ty, pos, af, gd⟩ (.int .i64 (p / q)) := fun ρ hρ w _ => by
  have h3 : p.tdiv q = p / q := Int.tdiv_eq_ediv_of_nonneg h0
  have h4 : p / q ≤ p := Int.ediv_le_self q h0
  have h5 : 0 ≤ p / q := Int.ediv_nonneg h0 (by omega)
  have h6 : q ≠ 0 := by omega
  simp [execOp, hρ _ _ hx, hρ _ _ hy, run_eqGuard_int, binOp, Op.intDiv, h6, h3, wrap_i64 (n := p / q) (by omega) (by omega)]
theorem yv_rem {t t' : TypeId} {x y : Operand} {p q : Int} (hx : ev L x = some (.int .i64 p)) (hy : ev L y = some (.int .i64 q)) (h0 : 0 ≤ p) (hq : 1 ≤ q) :
    Yv P C L ⟨dd, .binOp .rem t x y t', ty, pos, af, gd⟩ (.int .i64 (p % q)) := fun ρ hρ w _ => by
  have h3 : p.tmod q = p % q := Int.tmod_eq_emod_of_nonneg h0
  have h6 : q ≠ 0 := by omega
  simp [execOp, hρ _ _ hx, hρ _ _ hy, run_eqGuard_int, binOp, Op.intDiv, h6, h3]

theorem run_eqGuard_shift (op : BinOp) (hop : op = .shl ∨ op = .shr) (t : TypeId) (x y : Operand) (u v : Value) (w : World) : (eqGuard op t x y u v).run P w = .ok () w := by
  rcases hop with rfl | rfl <;> simp [eqGuard]

theorem yv_shl {t t' : TypeId} {x y : Operand} {k k' : IntKind} {p q : Int} (hx : ev L x = some (.int k p)) (hy : ev L y = some (.int k' q)) (h0 : 0 ≤ q) (hq : q ≤ k.bits) :
    Yv P C L ⟨dd, .binOp .shl t x y t', ty, pos, af, gd⟩ (.int k (k.wrap (p * 2 ^ q.toNat))) := fun ρ hρ w _ => by
  have h1 : ¬ q < 0 := by omega
  have h2 : min q.toNat k.bits = q.toNat := by omega
  simp [execOp, hρ _ _ hx, hρ _ _ hy, run_eqGuard_shift .shl (.inl rfl), binOp, Op.shift, h1, h2]
theorem yv_shr {t t' : TypeId} {x y : Operand} {k k' : IntKind} {p q : Int} (hx : ev L x = some (.int k p)) (hy : ev L y = some (.int k' q)) (h0 : 0 ≤ q) (hq : q ≤ k.bits) :
    Yv P C L ⟨dd, .binOp .shr t x y t', ty, pos, af, gd⟩ (.int k (p.fdiv (2 ^ q.toNat))) := fun ρ hρ w _ => by
  have h1 : ¬ q < 0 := by omega
  have h2 : min q.toNat k.bits = q.toNat := by omega
  simp [execOp, hρ _ _ hx, hρ _ _ hy, run_eqGuard_shift .shr (.inr rfl), binOp, Op.shift, h1, h2]

theorem yv_not {t : TypeId} {x : Operand} {b : Bool} (hx : ev L x = some (.bool b)) : Yv P C L ⟨dd, .unOp .not t x, ty, pos, af, gd⟩ (.bool (!b)) := fun ρ hρ w _ => by
  simp [execOp, hρ _ _ hx, Op.unary]
theorem yv_neg {t : TypeId} {x : Operand} {p : Int} (hx : ev L x = some (.int .i64 p)) (h1 : -9223372036854775807 ≤ p) (h2 : p ≤ 9223372036854775807) : Yv P C L ⟨dd, .unOp .neg t x, ty, pos, af, gd⟩ (.int .i64 (-p)) := fun ρ hρ w _ => by
  simp [execOp, hρ _ _ hx, Op.unary, Op.intArith, wrap_i64 (n := -p) (by omega) (by omega)]

theorem yv_conv {s t : TypeId} {x : Operand} {k k' : IntKind} {p : Int} (hs : (P.underlying s).isSome = true) (ht : P.underlying t = some (.int k')) (hx : ev L x = some (.int k p)) :
    Yv P C L ⟨dd, .convert s t x, ty, pos, af, gd⟩ (.int k' (k'.wrap p)) := fun ρ hρ w _ => by
  cases h : P.underlying s with
  | none => rw [h] at hs; simp at hs
  | some d => simp [execOp, hρ _ _ hx, convert, underlying, ht, h, Conv.intToInt]
end
end Go.Sy

