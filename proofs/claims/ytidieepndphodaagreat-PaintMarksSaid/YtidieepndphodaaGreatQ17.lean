/- Lemmas, in order: Blocks that hold what they held, and that the rounds of a range do not turn.. -/
import Derived.Test.YtidieepndphodaaGreatQ16
namespace Go.Sy
open Go Go.Proofs
def Held (N : List Nat) (w : World) (l : List (Nat × Obj)) : Prop := ∀ q ∈ l, w.heap[q.1]? = some q.2 ∧ q.1 ∉ N
theorem Held.step {N N' : List Nat} {w w' : World} {l : List (Nat × Obj)} (h : Held N w l) (e : Ext N w w') (g : Grows N N' w) : Held N' w' l := fun q hq => by
  obtain ⟨h1, h2⟩ := h q hq
  refine ⟨e.getM h1 h2, fun h3 => ?_⟩
  have := (Array.getElem?_eq_some_iff.1 h1).1
  rcases g _ h3 with h4 | h4
  · exact h2 h4
  · omega
theorem Held.grow {N N' : List Nat} {w : World} {l : List (Nat × Obj)} (h : Held N w l) (g : Grows N N' w) : Held N' w l := h.step (.refl _ _) g
theorem Held.ext {N : List Nat} {w w' : World} {l : List (Nat × Obj)} (h : Held N w l) (e : Ext [] w w') : Held N w' l := fun q hq => ⟨e.get (h q hq).1, (h q hq).2⟩
theorem Held.extM {N O : List Nat} {w w' : World} {l : List (Nat × Obj)} (h : Held N w l) (e : Ext O w w') (ho : ∀ x ∈ O, x ∉ l.map Prod.fst) : Held N w' l := fun q hq =>
  ⟨e.getM (h q hq).1 fun hx => ho _ hx (List.mem_map.2 ⟨q, hq, rfl⟩), (h q hq).2⟩
theorem Held.at {N : List Nat} {w : World} {l : List (Nat × Obj)} (h : Held N w l) (i : Nat) {b : Nat} {o : Obj} (hi : l[i]? = some (b, o)) : w.heap[b]? = some o := (h _ (List.mem_of_getElem? hi)).1
theorem Held.off {N : List Nat} {w : World} {l : List (Nat × Obj)} (h : Held N w l) (i : Nat) {b : Nat} {o : Obj} (hi : l[i]? = some (b, o)) : b ∉ N := (h _ (List.mem_of_getElem? hi)).2
theorem Held.sub {N : List Nat} {w : World} {l l' : List (Nat × Obj)} (h : Held N w l) (hs : ∀ q ∈ l', q ∈ l) : Held N w l' := fun q hq => h q (hs q hq)
theorem Held.cons {N : List Nat} {w : World} {l : List (Nat × Obj)} {b : Nat} {o : Obj} (h : w.heap[b]? = some o) (hb : b ∉ N) (hl : Held N w l) : Held N w ((b, o) :: l) := fun q hq => by
  rcases List.mem_cons.1 hq with rfl | hq
  · exact ⟨h, hb⟩
  · exact hl q hq
theorem Held.nil (N : List Nat) (w : World) : Held N w [] := fun q hq => by cases hq
end Go.Sy
