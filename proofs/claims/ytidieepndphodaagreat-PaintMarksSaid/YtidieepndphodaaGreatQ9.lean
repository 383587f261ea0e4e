/- Lemmas, in order: The engine: the room of a slice that a row is handed. The engine: a callee that turns blocks which it is handed; lists of slices.. -/
import Derived.Test.YtidieepndphodaaGreatQ8
namespace Go.Sy
open Go Go.Proofs Go.RowKit Go.ChangeShapes Go.WideShapes Go.Deep
section
variable {P : Program} {H : Type} {enc : TypeId × Value → H} {W : World} {base : Nat} {spare : Nat → Bool} {held : Bool}
theorem trod_cap {t e : TypeId} {fuel n cap : Nat} {sa : Option Addr} {cs : List Value} {x : DataW H × List MemPlace} (ht : P.underlying t = some (.slice e)) (hc : cs = [.slice sa n cap]) (h : DataW.trod enc P W base spare held fuel t cs = some x) : n ≤ cap := by
  rcases open_slice ht h with ⟨e1, _⟩ | ⟨a, len, cap', m, n', D, Pl, e1, hb, hl, hm, hmm, _, hx⟩
  · rw [hc] at e1; cases e1; exact Nat.le_refl _
  · rw [hc] at e1; cases e1; exact hl
end
end Go.Sy
namespace Go.Sy
open Go Go.Proofs Go.RowKit
/-- A callee turned the blocks of X, and left those of X'. -/
theorem Hp.swap {w0 : World} {M : List Nat} {X X' Z : List (Nat × Obj)} {w w' : World} (h : Hp w0 M (X ++ Z) w) (h' : Hp w (X.map Prod.fst) X' w') : Hp w0 M (X' ++ Z) w' := by
  have hlt : ∀ p ∈ X ++ Z, p.1 < w.heap.size := fun p hp => (Array.getElem?_eq_some_iff.1 (h.get p hp)).1
  have hnd := h.nodup
  rw [List.map_append, List.nodup_append] at hnd
  have hz : ∀ p ∈ Z, p.1 ∉ X.map Prod.fst := fun p hp hx => hnd.2.2 _ hx _ (List.mem_map.2 ⟨p, hp, rfl⟩) rfl
  have hX : ∀ k ∈ X.map Prod.fst, w0.heap.size ≤ k ∨ k ∈ M := fun k hk => by
    obtain ⟨p, hp, rfl⟩ := List.mem_map.1 hk
    exact h.mine p (List.mem_append_left _ hp)
  refine ⟨⟨h'.ext.os.trans h.ext.os, h'.ext.tape.trans h.ext.tape, h'.ext.output.trans h.ext.output, Nat.le_trans h.ext.size h'.ext.size, fun k hk hm => ?_⟩, fun p hp => ?_, ?_, fun p hp => ?_⟩
  · rw [h'.ext.block k (Nat.lt_of_lt_of_le hk h.ext.size) (fun hx => by rcases hX k hx with h1 | h1; omega; exact hm h1), h.ext.block k hk hm]
  · rcases List.mem_append.1 hp with hp | hp
    · exact h'.get p hp
    · rw [h'.ext.block p.1 (hlt p (List.mem_append_right _ hp)) (hz p hp)]
      exact h.get p (List.mem_append_right _ hp)
  · rw [List.map_append, List.nodup_append]
    refine ⟨h'.nodup, hnd.2.1, fun a ha b hb e => ?_⟩
    obtain ⟨p, hp, rfl⟩ := List.mem_map.1 ha
    obtain ⟨q, hq, rfl⟩ := List.mem_map.1 hb
    rcases h'.mine p hp with h1 | h1
    · have := hlt q (List.mem_append_right _ hq); omega
    · rw [e] at h1; exact hz q hq h1
  · rcases List.mem_append.1 hp with hp | hp
    · rcases h'.mine p hp with h1 | h1
      · exact .inl (Nat.le_trans h.ext.size h1)
      · exact hX _ h1
    · exact h.mine p (List.mem_append_right _ hp)
theorem ownSl_hp {e size m : Nat} {v : Value} {xs : List Value} {X : List (Nat × Obj)} {w : World} (ho : OwnSl e size v m xs X) (hX : ∀ x ∈ X, w.heap[x.1]? = some x.2) : Hp w (X.map Prod.fst) X w := by
  rcases ho.2 with ⟨_, _, rfl⟩ | ⟨B, cap, cur, _, rfl, _⟩
  · exact Hp.init w []
  · exact Hp.init1 (hX _ (.head _))
/-- Values in memory, not in the blocks of X. -/
def ValsOff (w : World) (X : List (Nat × Obj)) (sa : Option Addr) (vs : List Value) : Prop :=
  vs = [] ∨ ∃ blk off c T fr, sa = some ⟨blk, off, none⟩ ∧ blk ∉ X.map Prod.fst ∧ w.heap[blk]? = some (.cells c T fr) ∧ ∀ j v, vs[j]? = some v → c[off + j]? = some v
theorem ValsOff.vals {w : World} {X : List (Nat × Obj)} {sa : Option Addr} {vs : List Value} (h : ValsOff w X sa vs) : ValsIn w sa vs := by
  rcases h with h | ⟨blk, off, c, T, fr, h1, _, h2, h3⟩
  · exact .inl h
  · exact .inr ⟨blk, off, c, T, fr, h1, h2, h3⟩
theorem ValsOff.of {w : World} {sa : Option Addr} {vs : List Value} (h : ValsIn w sa vs) : ValsOff w [] sa vs := by
  rcases h with h | ⟨blk, off, c, T, fr, h1, h2, h3⟩
  · exact .inl h
  · exact .inr ⟨blk, off, c, T, fr, h1, by simp, h2, h3⟩
theorem ValsOff.keep {u w : World} {X X' : List (Nat × Obj)} {sa : Option Addr} {vs : List Value} (h : ValsOff u X sa vs) (hh : Hp u (X.map Prod.fst) X' w) : ValsOff w X' sa vs := by
  rcases h with h | ⟨blk, off, c, T, fr, h1, h0, h2, h3⟩
  · exact .inl h
  · have hlt := (Array.getElem?_eq_some_iff.1 h2).1
    refine .inr ⟨blk, off, c, T, fr, h1, fun hx => ?_, by rw [hh.ext.block blk hlt h0]; exact h2, h3⟩
    obtain ⟨p, hp, rfl⟩ := List.mem_map.1 hx
    rcases hh.mine p hp with h4 | h4
    · omega
    · exact h0 h4
theorem ValsOff.ext {u w : World} {X : List (Nat × Obj)} {sa : Option Addr} {vs : List Value} (h : ValsOff u X sa vs) (hh : Ext (X.map Prod.fst) u w) : ValsOff w X sa vs := by
  rcases h with h | ⟨blk, off, c, T, fr, h1, h0, h2, h3⟩
  · exact .inl h
  · exact .inr ⟨blk, off, c, T, fr, h1, h0, by rw [hh.block blk (Array.getElem?_eq_some_iff.1 h2).1 h0]; exact h2, h3⟩
/-- A slice of one's own, whose block is not one of X. -/
theorem valsOff_own {u w : World} {M : List Nat} {e size m cap : Nat} {oa : Option Addr} {xs : List Value} {X Y Z : List (Nat × Obj)} (ho : OwnSl e size (.slice oa m cap) m xs Y) (hh : Hp u M (Y ++ (X ++ Z)) w) : ValsOff w X oa xs := by
  rcases ho.2 with ⟨_, h2, _⟩ | ⟨B, cp, cur, h1, h2, h3, _, h5, h6⟩
  · refine .inl (List.eq_nil_of_length_eq_zero ?_)
    rw [ho.1, h2, Nat.zero_mul]
  · cases h1
    subst h2
    have hnd := hh.nodup
    rw [List.singleton_append, List.map_cons, List.nodup_cons] at hnd
    refine .inr ⟨B, 0, cur, e, (0, 0), rfl, fun hx => hnd.1 (by rw [List.map_append]; exact List.mem_append_left _ hx), hh.get (B, _) (by simp), fun j v hj => ?_⟩
    rw [← h6] at hj
    have hjl : j < m * size := by
      have := (List.getElem?_eq_some_iff.1 hj).1
      rw [List.length_take] at this; omega
    rw [List.getElem?_take, if_pos hjl] at hj
    rw [Nat.zero_add, ← Array.getElem?_toList]; exact hj
/-- A list of slices. -/
def HdsAt {α : Type} (enc : α → List Value) (len : α → Nat) (w : World) (X : List (Nat × Obj)) (hs : List Value) (ws : List α) : Prop :=
  hs.length = ws.length ∧ ∀ (j : Nat) (c : α), ws[j]? = some c → ∃ (sb : Option Addr) (cb : Nat), hs[j]? = some (Value.slice sb (len c) cb) ∧ ValsOff w X sb (enc c)
section
variable {α : Type} {enc : α → List Value} {len : α → Nat} {u w : World} {X X' : List (Nat × Obj)} {hs hs' : List Value} {ws ws' : List α}
theorem HdsAt.nil : HdsAt enc len w X [] [] := ⟨rfl, fun j c h => by simp at h⟩
theorem HdsAt.keep (h : HdsAt enc len u X hs ws) (hh : Hp u (X.map Prod.fst) X' w) : HdsAt enc len w X' hs ws :=
  ⟨h.1, fun j c hj => by obtain ⟨sb, cb, h1, h2⟩ := h.2 j c hj; exact ⟨sb, cb, h1, h2.keep hh⟩⟩
theorem HdsAt.ext (h : HdsAt enc len u X hs ws) (hh : Ext (X.map Prod.fst) u w) : HdsAt enc len w X hs ws :=
  ⟨h.1, fun j c hj => by obtain ⟨sb, cb, h1, h2⟩ := h.2 j c hj; exact ⟨sb, cb, h1, h2.ext hh⟩⟩
theorem HdsAt.app (h : HdsAt enc len w X hs ws) (h' : HdsAt enc len w X hs' ws') : HdsAt enc len w X (hs ++ hs') (ws ++ ws') := by
  refine ⟨by rw [List.length_append, List.length_append, h.1, h'.1], fun j c hj => ?_⟩
  rw [List.getElem?_append] at hj ⊢
  rw [h.1]
  split at hj
  · rename_i hl; rw [if_pos hl]; exact h.2 j c hj
  · rename_i hl; rw [if_neg hl]; exact h'.2 _ c hj
theorem HdsAt.one {c : α} {sb : Option Addr} {cb : Nat} (h : ValsOff w X sb (enc c)) : HdsAt enc len w X [Value.slice sb (len c) cb] [c] :=
  ⟨rfl, fun j x hj => by
    match j, hj with
    | 0, hj => cases hj; exact ⟨sb, cb, rfl, h⟩
    | j + 1, hj => simp at hj⟩
theorem HdsAt.one' {c : α} {sb : Option Addr} {n cb : Nat} (h : ValsOff w X sb (enc c)) (hn : n = len c) : HdsAt enc len w X [Value.slice sb n cb] [c] := by subst hn; exact .one h
end
theorem Hp.swap' {w0 : World} {M : List Nat} {X X' Z H : List (Nat × Obj)} {w w' : World} (h : Hp w0 M H w) (hp : H.Perm (X ++ Z)) (h' : Hp w (X.map Prod.fst) X' w') : Hp w0 M (X' ++ Z) w' := (h.perm hp).swap h'
/-- What a callee turned, seen from a world before. -/
theorem Hp.narrow {w0 : World} {X X' Z H : List (Nat × Obj)} {w : World} (h : Hp w0 (X.map Prod.fst) H w) (hs : X'.Sublist H) : Hp w0 (X.map Prod.fst) X' w := h.less hs
end Go.Sy
