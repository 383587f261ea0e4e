/- Lemmas, in order: Slices of slices of rows of numbers that a row is handed. Regions whose order is open, with blocks that are laid in any order: what is known of them does not tell the order. Operations that lay a block: allocations, slices that are built, boxes. Regions whose order is open, with many operations that depend on one another in some order: values, calls that change nothing, blocks that are laid; then one last operation. A point at which several ways meet, behind two codes. Lists ordered anew, by sums; blocks that come in; how a function leaves that defers a call with arguments.. -/
import Derived.Test.YtccpgpnekoncoaaGreatQ20
namespace Go.Sy
open Go Go.Proofs Go.ChangeShapes Go.WideShapes Go.Deep
section
variable {P : Program} {H : Type} {enc : TypeId × Value → H} {W : World} {base : Nat} {spare : Nat → Bool} {held : Bool} {k : IntKind}
end
end Go.Sy

namespace Go.Sy
open Go Go.Proofs Go.RowKit
inductive OS where
  | fin
  | p (k : Nat) (t : OS)
  | q (c k : Nat) (t : OS)
  | e1 (k : Nat) (t : OS)
  | s (A : List Nat) (t : OS)
  | s2 (A E : List Nat) (k : Nat) (t : OS)
section
variable {P : Program} {r : Option Nat} {ops : Array Oper} {md : Region.Mode} {Cs : Cls} {Q : Act → World → Prop}
end
/-- An operation that lays one block, whatever the world. -/
def Lays (P : Program) (L : List (Nat × Value)) (o : Oper) (v : Nat → Value) (obj : Obj) : Prop :=
  ∀ ρ, Agree L ρ → ∀ w : World, (execOp ρ o).run P w = .ok (.value (v w.heap.size)) { w with heap := w.heap.push obj }
structure Lay where
  k : Nat
  d : Nat
  v : Nat → Value
  obj : Obj
section
variable {P : Program} {r : Option Nat} {ops : Array Oper} {Cs : Cls} {Q : Act → World → Prop} {k n c : Nat} {t : OS} {ds : List Deferred} {L : List (Nat × Value)} {a : Act} {w w0 : World} {M : List Nat} {H : List (Nat × Obj)} {o : Oper} {d : Nat} {v : Value} {p : (World → Prop) × List Nat}
theorem Ext.push (w : World) (o : Obj) : Ext [] w { w with heap := w.heap.push o } := ((Hp.init w []).alloc o).ext
structure LayOk (P : Program) (ops : Array Oper) (n : Nat) (L : List (Nat × Value)) (S : List Lay) (s : Lay) : Prop where
  ok : ∃ o Lo, ops[s.k]? = some o ∧ o.dst = some s.d ∧ o.guard = none ∧ isDefer o.op = false ∧ Nat.blt s.d n = true ∧ Lays P Lo o s.v s.obj ∧ AllIn L Lo ∧ ∀ x ∈ S, ∀ q ∈ Lo, x.d ≠ q.1
end
end Go.Sy

namespace Go.Sy
open Go Go.Proofs Go.RowKit
theorem AtE.more {u w w' : World} {M : List Nat} {H : List (Nat × Obj)} (h : AtE u M H w) (e : Ext [] w w') : AtE u M H w' := ⟨h.1.trans (e.mono (by simp)), fun p hp => e.get (h.2 p hp)⟩
section
variable {P : Program} {L : List (Nat × Value)} {d : Nat} {v : Value} {ty : TypeId} {pos : String} {af : Array Edge} {gd : Option (Nat × Bool)}
end
end Go.Sy

namespace Go.Sy
open Go Go.Proofs Go.RowKit
structure DOp where
  d : Nat
  V : (Nat → Nat) → Value
  O : (Nat → Nat) → Option Obj
  E : List Nat
  F : List Nat
  Lz : List (Nat × Value)
def dLo (X : Nat → DOp) (i : Nat) (β : Nat → Nat) : List (Nat × Value) := ((X i).E.map fun j => ((X j).d, (X j).V β)) ++ (X i).Lz
def dHs (X : Nat → DOp) (β : Nat → Nat) (D : List Nat) : List (Nat × Obj) := D.filterMap fun j => ((X j).O β).map fun o => (β j, o)
def dFr (X : Nat → DOp) (β : Nat → Nat) (D : List Nat) : List (Nat × Value) := D.map fun j => ((X j).d, (X j).V β)
/-- How an operation of the kind runs. -/
def DRun (P : Program) (C : World → Prop) (X : Nat → DOp) (i : Nat) (o : Oper) : Prop :=
  ∀ (β : Nat → Nat) (ρ : Operand → Value) (w : World), Agree (dLo X i β) ρ → C w → β i = w.heap.size →
    (∃ obj, (X i).O β = some obj ∧ (execOp ρ o).run P w = .ok (.value ((X i).V β)) { w with heap := w.heap.push obj }) ∨
    ((X i).O β = none ∧ (execOp ρ o).run P w = .ok (.value ((X i).V β)) w) ∨
    ((X i).O β = none ∧ ∃ f args, (execOp ρ o).run P w = .ok (.enter f args) w ∧ Calls P f args w (Ret fun v w' => v = (X i).V β ∧ Ext [] w w'))
structure DOk (P : Program) (ops : Array Oper) (n : Nat) (C : World → Prop) (X : Nat → DOp) (L0 : List (Nat × Value)) (A i : Nat) : Prop where
  ok : ∃ o, ops[i]? = some o ∧ o.dst = some (X i).d ∧ o.guard = none ∧ isDefer o.op = false ∧ Nat.blt (X i).d n = true ∧ ((X i).E.all fun j => o.after.any fun e => Nat.beq e.on j && Region.binds .any e) = true ∧ DRun P C X i o
  f : ((X i).F.all fun x => Nat.beq x i || (X i).E.any fun j => (X j).F.contains x) = true
  loc : ∀ β β' : Nat → Nat, (∀ x ∈ (X i).F, β x = β' x) → (X i).V β = (X i).V β' ∧ (X i).O β = (X i).O β'
  lz : AllIn L0 (X i).Lz
  lx : ((List.range A).all fun j => (X i).Lz.all fun q => !Nat.beq (X j).d q.1) = true
section
variable {P : Program} {r : Option Nat} {ops : Array Oper} {n : Nat} {ds : List Deferred} {L L0 : List (Nat × Value)} {a : Act} {w w0 : World} {M : List Nat} {H0 : List (Nat × Obj)} {C : World → Prop} {X : Nat → DOp} {A i : Nat} {o : Oper}
theorem AllIn.mem : ∀ {K : List (Nat × Value)}, AllIn L K → ∀ q ∈ K, lk L q.1 = some q.2
  | (t, v) :: K, h, q, hq => by
    rcases List.mem_cons.1 hq with rfl | hq
    · exact h.1
    · exact AllIn.mem h.2 q hq
structure DZ (w0 : World) (M : List Nat) (n : Nat) (ds : List Deferred) (X : Nat → DOp) (L0 : List (Nat × Value)) (H0 : List (Nat × Obj)) (D : List Nat) (β : Nat → Nat) (a : Act) (w : World) : Prop where
  c : ∀ j ∈ D, ∀ x ∈ (X j).F, x ∈ D
  f : Fr n ds (dFr X β D ++ L0) a
  h : Hp w0 M (dHs X β D ++ H0) w
end
end Go.Sy

namespace Go.Sy
open Go Go.Proofs Go.RowKit
section
variable {P : Program} {r : Option Nat} {Q : Exit → Act → World → Prop} {n : Nat} {ds : List Deferred} {L : List (Nat × Value)} {a : Act} {w : World}
end
end Go.Sy

namespace Go.Sy
open Go Go.Proofs Go.RowKit
theorem perm_sum {α : Type} {l m : List α} (h : ∀ f : α → Nat, (l.map f).sum = (m.map f).sum) : l.Perm m := by
  classical
  have key : ∀ (a : α) (l : List α), (l.map fun x => if x = a then 1 else 0).sum = l.count a := by
    intro a l
    induction l with
    | nil => rfl
    | cons x l ih =>
      rw [List.map_cons, List.sum_cons, ih, List.count_cons]
      by_cases e : x = a
      · subst e; simp; omega
      · simp [e]
  rw [List.perm_iff_count]
  intro a
  rw [← key, ← key]
  exact h _
theorem Hp.addNew {u w : World} {M : List Nat} {H : List (Nat × Obj)} {b : Nat} {o : Obj} (h : Hp u M H w) (hb : w.heap[b]? = some o) (hs : u.heap.size ≤ b) (hn : b ∉ H.map Prod.fst) : Hp u M ((b, o) :: H) w :=
  ⟨h.ext, fun q hq => by
    rcases List.mem_cons.1 hq with rfl | hq
    · exact hb
    · exact h.get q hq, by rw [List.map_cons, List.nodup_cons]; exact ⟨hn, h.nodup⟩, fun q hq => by
    rcases List.mem_cons.1 hq with rfl | hq
    · exact .inl hs
    · exact h.mine q hq⟩
section
variable {P : Program} {fn : Func} {R : Value → World → Prop} {n : Nat} {L : List (Nat × Value)} {a : Act} {w w0 : World} {M : List Nat}
end
end Go.Sy

