/- Lemmas, in order: What a callee leaves beside a block of the caller's that it writes. Maps with keys of integers that hold, under each key of a list, what a function tells; ranges over them.. -/
import Derived.Test.YtccpgpnekoncoaaGreatDoorQ4
namespace Go.Sy
open Go Go.Proofs Go.RowKit
theorem Hp.joinM {w0 : World} {M : List Nat} {H K : List (Nat × Obj)} {w w' : World} {i b : Nat} {o o' : Obj} (h : Hp w0 M H w) (hi : H[i]? = some (b, o)) (h' : Hp w [b] ((b, o') :: K) w') : Hp w0 M (K ++ H.set i (b, o')) w' := by
  have ht := h.turn hi h'.ext (h'.get (b, o') (.head _))
  have hnm : (H.set i (b, o')).map Prod.fst = H.map Prod.fst := by
    rw [List.map_set]
    refine List.ext_getElem? fun j => ?_
    rw [List.getElem?_set]
    split
    · rename_i e
      subst e
      rw [List.getElem?_map, hi]
      simp [(List.getElem?_eq_some_iff.1 hi).1]
    · rfl
  have hnd := h'.nodup
  rw [List.map_cons, List.nodup_cons] at hnd
  have hK : ∀ p ∈ K, w.heap.size ≤ p.1 := fun p hp => by
    rcases h'.mine p (.tail _ hp) with h1 | h1
    · exact h1
    · rw [List.mem_singleton] at h1
      exact absurd (List.mem_map.2 ⟨p, hp, h1⟩) hnd.1
  refine ⟨ht.ext, fun p hp => ?_, ?_, fun p hp => ?_⟩
  · rcases List.mem_append.1 hp with hp | hp
    · exact h'.get p (.tail _ hp)
    · exact ht.get p hp
  · rw [List.map_append, List.nodup_append]
    refine ⟨hnd.2, ht.nodup, fun a ha b' hb e => ?_⟩
    obtain ⟨p, hp, rfl⟩ := List.mem_map.1 ha
    rw [hnm] at hb
    obtain ⟨q, hq, rfl⟩ := List.mem_map.1 hb
    have h1 := hK p hp
    have h2 := (Array.getElem?_eq_some_iff.1 (h.get q hq)).1
    omega
  · rcases List.mem_append.1 hp with hp | hp
    · have := hK p hp
      have := h.ext.size
      exact .inl (by omega)
    · exact ht.mine p hp
end Go.Sy

namespace Go.Sy
open Go Go.Proofs
set_option linter.unusedSectionVars false
abbrev encI (n : Int) : Value := .int .i64 n
theorem encI_inj {p q : Int} (h : encI p = encI q) : p = q := by cases h; rfl
variable {P : Program} {F : Int → Value}
structure SetN (F : Int → Value) (S : List Int) (es : Array MapEntry) (c : Nat) : Prop where
  keys : es.toList.map (·.key) = S.map encI
  val : ∀ e ∈ es.toList, ∀ p, e.key = encI p → e.val = F p
  nd : S.Nodup
  born : (es.toList.map (·.born)).Nodup
  old : ∀ e ∈ es.toList, e.born < c
theorem SetN.nil (F : Int → Value) : SetN F [] #[] 0 := ⟨rfl, fun e h => by simp at h, .nil, .nil, fun e h => by simp at h⟩
theorem ask_list {F : Int → Value} (p : Int) : ∀ (l : List MapEntry) (S : List Int), l.map (·.key) = S.map encI → (∀ e ∈ l, ∀ p, e.key = encI p → e.val = F p) → askL p l = if p ∈ S then some (F p) else none
  | [], [], _, _ => rfl
  | [], q :: S, h, _ => by simp at h
  | e :: l, [], h, _ => by simp at h
  | e :: l, q :: S, h, hv => by
    rw [List.map_cons, List.map_cons, List.cons.injEq] at h
    rw [ask_hd (k := .i64) (n := q) h.1, ask_list p l S h.2 (fun e he => hv e (.tail _ he))]
    by_cases hq : q = p
    · subst hq
      rw [if_pos rfl, if_pos (.head _), hv e (.head _) q h.1]
    · rw [if_neg hq]
      by_cases hp : p ∈ S
      · rw [if_pos hp, if_pos (.tail _ hp)]
      · rw [if_neg hp, if_neg (fun h => (List.mem_cons.1 h).elim (fun h => hq h.symm) hp)]
theorem SetN.mapI {S : List Int} {es : Array MapEntry} {c : Nat} (h : SetN F S es c) : MapI .i64 (fun p => if p ∈ S then some (F p) else none) es :=
  ⟨fun e he => by
    have h1 : e.key ∈ S.map encI := by rw [← h.keys]; exact List.mem_map.2 ⟨e, he, rfl⟩
    obtain ⟨p, _, hp⟩ := List.mem_map.1 h1
    exact ⟨p, hp.symm⟩, fun p => ask_list p _ S h.keys h.val⟩
section
variable {r : Option Nat} {all : Array Oper} {Q : Exit → Act → World → Prop} {rest : List Oper} {a : Act} {w w0 : World} {M : List Nat} {H : List (Nat × Obj)} {L : List (Nat × Value)} {n : Nat} {ds : List Deferred} {d : Nat} {ty : TypeId} {pos : String} {af : Array Edge} {gd : Option (Nat × Bool)}
theorem ops_putN {t ke el : TypeId} {x y z : Operand} {bm c i : Nat} {es : Array MapEntry} {p : Int} {S : List Int} (hf : Fr n ds L a) (hh : Hp w0 M H w) (ht : mapTypes P t = some (ke, el, .i64)) (hx : ev L x = some (.map (some bm))) (hy : ev L y = some (.int .i64 p))
    (hv : ev L z = some (F p)) (hi : H[i]? = some (bm, .map es c)) (hm : SetN F S es c) (hp : p ∉ S) (hg : GOn all L ⟨none, .mapUpdate t x y z, ty, pos, af, gd⟩)
    (K : ∀ (es' : Array MapEntry) (c' : Nat) (w : World), SetN F (S ++ [p]) es' c' → Hp w0 M (H.set i (bm, .map es' c')) w → OpsW P r all Q rest a w) : OpsW P r all Q (⟨none, .mapUpdate t x y z, ty, pos, af, gd⟩ :: rest) a w := by
  obtain ⟨h1, h2⟩ := mapTypes_eq ht
  have hb := hh.at hi
  have hgo : (getObj bm).run P w = .ok (.map es c) w := by simp [getObj, Sem.run, hb]
  have hc := run_checkKey_int' (P := P) (w := w) (b := false) (p := p) h2
  have hset : ∀ o, (setObj bm o).run P w = .ok () (w.putObj bm o) := fun o => by simp [setObj, Sem.run, hb, World.putObj]
  have hI := hm.mapI
  have hno : askL p es.toList = none := (hI.get p).trans (if_neg hp)
  rcases find_ask (k := .i64) (p := p) es.toList 0 hI.keys with ⟨j, v0, e, a1, _⟩ | ⟨a1, a2⟩
  · rw [a1] at hno; cases hno
  · refine opsW_skip (w' := w.putObj bm (.map (es.push { key := .int .i64 p, val := F p, born := c }) (c + 1))) (hg.wanted hf) rfl ?_ (K _ _ _ ?_ (hh.put hi _))
    · simp [execOp, hf.agree _ _ hx, hf.agree _ _ hy, hf.agree _ _ hv, Instr.mapUpdate, run_underlying h1, hgo, hc, Instr.findKey, run_underlying h2, a2, hset]
    · refine ⟨?_, fun e he q hq => ?_, ?_, ?_, fun e he => ?_⟩
      · rw [Array.toList_push, List.map_append, List.map_append, hm.keys]; rfl
      · rw [Array.toList_push, List.mem_append] at he
        rcases he with he | he
        · exact hm.val e he q hq
        · rw [List.mem_singleton.1 he] at hq ⊢
          rw [← encI_inj hq]
      · rw [List.nodup_append]
        exact ⟨hm.nd, by simp, fun x hx y hy hxy => by rw [List.mem_singleton.1 hy] at hxy; exact hp (hxy ▸ hx)⟩
      · rw [Array.toList_push, List.map_append, List.nodup_append]
        refine ⟨hm.born, by simp, fun x hx y hy hxy => ?_⟩
        obtain ⟨e, he, rfl⟩ := List.mem_map.1 hx
        have := hm.old e he
        simp at hy
        omega
      · rw [Array.toList_push, List.mem_append] at he
        rcases he with he | he
        · have := hm.old e he; omega
        · rw [List.mem_singleton.1 he]; exact Nat.lt_succ_self _
end
section
variable {C : World → Prop} {L : List (Nat × Value)} {dd : Option Tmp} {ty : TypeId} {pos : String} {af : Array Edge} {gd : Option (Nat × Bool)}
end
end Go.Sy

