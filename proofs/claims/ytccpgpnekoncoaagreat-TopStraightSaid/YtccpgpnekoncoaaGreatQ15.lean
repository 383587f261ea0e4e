/- Lemmas, in order: Maps whose entries are told by a relation: what is found under a key is one of its values. What a callee leaves beside a block of the caller's that it writes.. -/
import Derived.Test.YtccpgpnekoncoaaGreatQ14
namespace Go.Sy
open Go Go.Proofs Go.RowKit
def MemoR {κ : Type} (enc : κ → Value) (R : κ → Value → Prop) (es : Array MapEntry) : Prop := ∀ e ∈ es.toList, ∃ p, e.key = enc p ∧ R p e.val
def HasK {κ : Type} (enc : κ → Value) (p : κ) (es : Array MapEntry) : Prop := ∃ e ∈ es.toList, e.key = enc p
theorem MemoR.nil {κ : Type} (enc : κ → Value) (R : κ → Value → Prop) : MemoR enc R #[] := fun e h => by simp at h
theorem MemoR.mono {κ : Type} {enc : κ → Value} {R R' : κ → Value → Prop} {es : Array MapEntry} (h : MemoR enc R es) (hr : ∀ p v, R p v → R' p v) : MemoR enc R' es := fun e he => let ⟨p, h1, h2⟩ := h e he; ⟨p, h1, hr p _ h2⟩
section
variable {P : Program} {κ : Type} [DecidableEq κ] {enc : κ → Value} {ke : TypeId} {R : κ → Value → Prop}
theorem ask_memoR (hk : KeyOk P ke enc) (p : κ) (w : World) : ∀ (l : List MapEntry) (i : Nat), (∀ e ∈ l, ∃ q, e.key = enc q ∧ R q e.val) →
    (∃ j v, (Instr.findAsking ke (enc p) l i).run P w = .ok (some (j, v)) w ∧ R p v ∧ ∃ e, l[j - i]? = some e ∧ i ≤ j ∧ e.key = enc p) ∨ ((Instr.findAsking ke (enc p) l i).run P w = .ok none w ∧ ∀ e ∈ l, ¬ ∃ q, e.key = enc q ∧ q = p ∧ R q e.val)
  | [], i, _ => .inr ⟨rfl, fun e h => by cases h⟩
  | e :: l, i, h => by
    obtain ⟨q, hq, hv⟩ := h e (by simp)
    have h0 := hk.eq p q w
    by_cases hpq : p = q
    · subst hpq
      exact .inl ⟨i, e.val, by simp [Instr.findAsking, hq, h0], hv, e, by simp, Nat.le_refl _, hq⟩
    · rcases ask_memoR hk p w l (i + 1) (fun e he => h e (by simp [he])) with ⟨j, v, h2, hR, e', h3, h4, h5⟩ | ⟨h2, h6⟩
      · refine .inl ⟨j, v, by simp [Instr.findAsking, hq, h0, hpq, h2], hR, e', ?_, by omega, h5⟩
        rw [show j - i = (j - (i + 1)) + 1 by omega]; simpa using h3
      · refine .inr ⟨by simp [Instr.findAsking, hq, h0, hpq, h2], fun e' he' => ?_⟩
        rcases List.mem_cons.1 he' with rfl | he'
        · rintro ⟨q', h7, rfl, _⟩
          have h8 := hk.eq q' q w
          have h9 := hk.eq q' q' w
          rw [← hq, h7, h9] at h8
          simp [hpq] at h8
        · exact h6 e' he'
theorem find_memoR (hk : KeyOk P ke enc) (p : κ) (w : World) {es : Array MapEntry} (hm : MemoR enc R es) :
    (∃ j v, (Instr.findKey ke (enc p) es.toList).run P w = .ok (some (j, v)) w ∧ R p v ∧ ∃ e, es[j]? = some e ∧ e.key = enc p) ∨ ((Instr.findKey ke (enc p) es.toList).run P w = .ok none w ∧ ¬ HasK enc p es) := by
  obtain ⟨td, h1, h2⟩ := hk.kind
  have hn : ∀ l : List MapEntry, (∀ e ∈ l, ∃ q, e.key = enc q ∧ R q e.val) → l ≠ [] → Instr.findNow td (enc p) l 0 = none := fun l hl hne => by
    cases l with
    | nil => exact absurd rfl hne
    | cons e l =>
      obtain ⟨q, hq, _⟩ := hl e (by simp)
      simp [Instr.findNow, hq, h2]
  by_cases he : es.toList = []
  · refine .inr ⟨?_, fun h => ?_⟩
    · rw [he]
      simp [Instr.findKey, run_underlying h1, Instr.findNow]
    · obtain ⟨e, h3, _⟩ := h
      rw [he] at h3; cases h3
  · rcases ask_memoR hk p w es.toList 0 hm with ⟨j, v, h3, hR, e, h4, _, h5⟩ | ⟨h3, h6⟩
    · refine .inl ⟨j, v, by simp [Instr.findKey, run_underlying h1, hn _ hm he, h3], hR, e, ?_, h5⟩
      rw [Nat.sub_zero, Array.getElem?_toList] at h4; exact h4
    · refine .inr ⟨by simp [Instr.findKey, run_underlying h1, hn _ hm he, h3], fun h => ?_⟩
      obtain ⟨e, h7, h8⟩ := h
      obtain ⟨q, h9, hR⟩ := hm e h7
      refine h6 e h7 ⟨q, h9, ?_, hR⟩
      have h10 := hk.eq p q w
      have h11 := hk.eq p p w
      rw [← h9, h8, h11] at h10
      simp at h10
      exact h10.symm
variable {L : List (Nat × Value)} {r : Option Nat} {all : Array Oper} {Q : Exit → Act → World → Prop} {rest : List Oper} {a : Act} {w w0 : World} {M : List Nat} {H : List (Nat × Obj)} {n : Nat} {ds : List Deferred} {d : Nat} {ty : TypeId} {pos : String} {af : Array Edge} {gd : Option (Nat × Bool)}
/-- A look into the map, with whether there is such a key. -/
theorem ops_lookupR {t el : TypeId} {x y : Operand} {bm c i : Nat} {es : Array MapEntry} {p : κ} {z : Value} (hf : Fr n ds L a) (hh : Hp w0 M H w) (hk : KeyOk P ke enc) (ht : mapKE P t = some (ke, el)) (hz : zeroOf P el = some z)
    (hx : ev L x = some (.map (some bm))) (hy : ev L y = some (enc p)) (hi : H[i]? = some (bm, .map es c)) (hm : MemoR enc R es) (hg : GOn all L ⟨some d, .lookup t x y true, ty, pos, af, gd⟩) (hn : Nat.blt d n = true)
    (K : ∀ (b : Bool) (v : Value) (a : Act), (if b = true then R p v else v = z) → Fr n ds ((d, .tuple #[v, .bool b]) :: L) a → OpsW P r all Q rest a w) : OpsW P r all Q (⟨some d, .lookup t x y true, ty, pos, af, gd⟩ :: rest) a w := by
  have h1 := mapKE_eq ht
  have hgo : (getObj bm).run P w = .ok (.map es c) w := by simp [getObj, Sem.run, hh.at hi]
  have hc := hk.chk es.isEmpty p w
  rcases find_memoR hk p w hm with ⟨j, v, a1, hR, _⟩ | ⟨a1, _⟩
  · exact opsW_value (v := .tuple #[v, .bool true]) (hg.wanted hf) rfl (by simp [execOp, hf.agree _ _ hx, hf.agree _ _ hy, Instr.lookup, run_underlying h1, hgo, hc, a1]) (K true v _ (by rw [if_pos rfl]; exact hR) (hf.put (blt_lt hn) _))
  · exact opsW_value (v := .tuple #[z, .bool false]) (hg.wanted hf) rfl (by simp [execOp, hf.agree _ _ hx, hf.agree _ _ hy, Instr.lookup, run_underlying h1, hgo, hc, a1, run_zero hz]) (K false z _ (by rw [if_neg (by decide)]) (hf.put (blt_lt hn) _))
/-- A look under a key that is there. -/
theorem ops_getR {t el : TypeId} {x y : Operand} {bm c i : Nat} {es : Array MapEntry} {p : κ} (hf : Fr n ds L a) (hh : Hp w0 M H w) (hk : KeyOk P ke enc) (ht : mapKE P t = some (ke, el))
    (hx : ev L x = some (.map (some bm))) (hy : ev L y = some (enc p)) (hi : H[i]? = some (bm, .map es c)) (hm : MemoR enc R es) (hin : HasK enc p es) (hg : GOn all L ⟨some d, .lookup t x y false, ty, pos, af, gd⟩) (hn : Nat.blt d n = true)
    (K : ∀ (v : Value) (a : Act), R p v → Fr n ds ((d, v) :: L) a → OpsW P r all Q rest a w) : OpsW P r all Q (⟨some d, .lookup t x y false, ty, pos, af, gd⟩ :: rest) a w := by
  have h1 := mapKE_eq ht
  have hgo : (getObj bm).run P w = .ok (.map es c) w := by simp [getObj, Sem.run, hh.at hi]
  have hc := hk.chk es.isEmpty p w
  rcases find_memoR hk p w hm with ⟨j, v, a1, hR, _⟩ | ⟨_, a2⟩
  · exact opsW_value (v := v) (hg.wanted hf) rfl (by simp [execOp, hf.agree _ _ hx, hf.agree _ _ hy, Instr.lookup, run_underlying h1, hgo, hc, a1]) (K v _ hR (hf.put (blt_lt hn) _))
  · exact absurd hin a2
theorem ops_putR {t el : TypeId} {x y z : Operand} {bm c i : Nat} {es : Array MapEntry} {p : κ} {v : Value} (hf : Fr n ds L a) (hh : Hp w0 M H w) (hk : KeyOk P ke enc) (ht : mapKE P t = some (ke, el)) (hx : ev L x = some (.map (some bm))) (hy : ev L y = some (enc p))
    (hv : ev L z = some v) (hi : H[i]? = some (bm, .map es c)) (hm : MemoR enc R es) (hR : R p v) (hg : GOn all L ⟨none, .mapUpdate t x y z, ty, pos, af, gd⟩)
    (K : ∀ (es' : Array MapEntry) (c' : Nat) (w : World), MemoR enc R es' → HasK enc p es' → Hp w0 M (H.set i (bm, .map es' c')) w → OpsW P r all Q rest a w) : OpsW P r all Q (⟨none, .mapUpdate t x y z, ty, pos, af, gd⟩ :: rest) a w := by
  have h1 := mapKE_eq ht
  have hb := hh.at hi
  have hgo : (getObj bm).run P w = .ok (.map es c) w := by simp [getObj, Sem.run, hb]
  have hc := hk.chk false p w
  have hset : ∀ o, (setObj bm o).run P w = .ok () (w.putObj bm o) := fun o => by simp [setObj, Sem.run, hb, World.putObj]
  rcases find_memoR hk p w hm with ⟨j, u, a2, _, e, hej, a5⟩ | ⟨a2, _⟩
  · have hkeep : (Instr.keyThatStays (((es[j]?).map (·.key)).getD (enc p)) (enc p)).run P w = .ok (enc p) w := by
      rw [hej]; simp [a5, Instr.keyThatStays, hk.bits]
    have hj := (Array.getElem?_eq_some_iff.1 hej).1
    refine opsW_skip (w' := w.putObj bm (.map (es.modify j fun e => { e with key := enc p, val := v }) c)) (hg.wanted hf) rfl ?_ (K _ _ _ ?_ ?_ (hh.put hi _))
    · simp [execOp, hf.agree _ _ hx, hf.agree _ _ hy, hf.agree _ _ hv, Instr.mapUpdate, run_underlying h1, hgo, hc, a2, hkeep, hset]
    · intro e' he'
      rw [Array.mem_toList_iff] at he'
      obtain ⟨q, hq, rfl⟩ := Array.getElem_of_mem he'
      rw [Array.getElem_modify]
      split
      · exact ⟨p, rfl, hR⟩
      · exact hm _ (Array.mem_toList_iff.2 (Array.getElem_mem _))
    · refine ⟨{ e with key := enc p, val := v }, Array.mem_toList_iff.2 (Array.mem_iff_getElem.2 ⟨j, by simpa using hj, ?_⟩), rfl⟩
      rw [Array.getElem_modify, if_pos rfl, (Array.getElem?_eq_some_iff.1 hej).2]
  · refine opsW_skip (w' := w.putObj bm (.map (es.push { key := enc p, val := v, born := c }) (c + 1))) (hg.wanted hf) rfl ?_ (K _ _ _ ?_ ?_ (hh.put hi _))
    · simp [execOp, hf.agree _ _ hx, hf.agree _ _ hy, hf.agree _ _ hv, Instr.mapUpdate, run_underlying h1, hgo, hc, a2, hset]
    · intro e' he'
      rw [Array.toList_push, List.mem_append] at he'
      rcases he' with he' | he'
      · exact hm e' he'
      · simp at he'; subst he'; exact ⟨p, rfl, hR⟩
    · exact ⟨_, by rw [Array.toList_push]; exact List.mem_append_right _ (.head _), rfl⟩
end
end Go.Sy

namespace Go.Sy
open Go Go.Proofs Go.RowKit
theorem Hp.joinM {w0 : World} {M : List Nat} {H K : List (Nat × Obj)} {w w' : World} {i b : Nat} {o o' : Obj} (h : Hp w0 M H w) (hi : H[i]? = some (b, o)) (h' : Hp w [b] ((b, o') :: K) w') : Hp w0 M (K ++ H.set i (b, o')) w' := by
  have ht := h.turn hi h'.ext (h'.get (b, o') (.head _))
  have hnm : (H.set i (b, o')).map Prod.fst = H.map Prod.fst := by
    rw [List.map_set]
    refine List.ext_getElem? fun j => ?_
    rw [List.getElem?_set]
    split
    · rename_i e
      subst e
      rw [List.getElem?_map, hi]
      simp [(List.getElem?_eq_some_iff.1 hi).1]
    · rfl
  have hnd := h'.nodup
  rw [List.map_cons, List.nodup_cons] at hnd
  have hK : ∀ p ∈ K, w.heap.size ≤ p.1 := fun p hp => by
    rcases h'.mine p (.tail _ hp) with h1 | h1
    · exact h1
    · rw [List.mem_singleton] at h1
      exact absurd (List.mem_map.2 ⟨p, hp, h1⟩) hnd.1
  refine ⟨ht.ext, fun p hp => ?_, ?_, fun p hp => ?_⟩
  · rcases List.mem_append.1 hp with hp | hp
    · exact h'.get p (.tail _ hp)
    · exact ht.get p hp
  · rw [List.map_append, List.nodup_append]
    refine ⟨hnd.2, ht.nodup, fun a ha b' hb e => ?_⟩
    obtain ⟨p, hp, rfl⟩ := List.mem_map.1 ha
    rw [hnm] at hb
    obtain ⟨q, hq, rfl⟩ := List.mem_map.1 hb
    have h1 := hK p hp
    have h2 := (Array.getElem?_eq_some_iff.1 (h.get q hq)).1
    omega
  · rcases List.mem_append.1 hp with hp | hp
    · have := hK p hp
      have := h.ext.size
      exact .inl (by omega)
    · exact ht.mine p hp
end Go.Sy

