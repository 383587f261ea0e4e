/- Lemmas, in order: What a callee leaves beside a block of the caller's that it writes. Maps with keys of integers that hold, under each key of a list, what a function tells; ranges over them.. -/
import Derived.Test.YtccpgpnekoncoaaGreatDoorQ4
namespace Go.Sy
open Go Go.Proofs Go.RowKit
theorem Hp.joinM {w0 : World} {M : List Nat} {H K : List (Nat × Obj)} {w w' : World} {i b : Nat} {o o' : Obj} (h : Hp w0 M H w) (hi : H[i]? = some (b, o)) (h' : Hp w [b] ((b, o') :: K) w') : Hp w0 M (K ++ H.set i (b, o')) w' := by
  have ht := h.turn hi h'.ext (h'.get (b, o') (.head _))
  have hnm : (H.set i (b, o')).map Prod.fst = H.map Prod.fst := by
    rw [List.map_set]
    refine List.ext_getElem? fun j => ?_
    rw [List.getElem?_set]
    split
    · rename_i e
      subst e
      rw [List.getElem?_map, hi]
      simp [(List.getElem?_eq_some_iff.1 hi).1]
    · rfl
  have hnd := h'.nodup
  rw [List.map_cons, List.nodup_cons] at hnd
  have hK : ∀ p ∈ K, w.heap.size ≤ p.1 := fun p hp => by
    rcases h'.mine p (.tail _ hp) with h1 | h1
    · exact h1
    · rw [List.mem_singleton] at h1
      exact absurd (List.mem_map.2 ⟨p, hp, h1⟩) hnd.1
  refine ⟨ht.ext, fun p hp => ?_, ?_, fun p hp => ?_⟩
  · rcases List.mem_append.1 hp with hp | hp
    · exact h'.get p (.tail _ hp)
    · exact ht.get p hp
  · rw [List.map_append, List.nodup_append]
    refine ⟨hnd.2, ht.nodup, fun a ha b' hb e => ?_⟩
    obtain ⟨p, hp, rfl⟩ := List.mem_map.1 ha
    rw [hnm] at hb
    obtain ⟨q, hq, rfl⟩ := List.mem_map.1 hb
    have h1 := hK p hp
    have h2 := (Array.getElem?_eq_some_iff.1 (h.get q hq)).1
    omega
  · rcases List.mem_append.1 hp with hp | hp
    · have := hK p hp
      have := h.ext.size
      exact .inl (by omega)
    · exact ht.mine p hp
end Go.Sy

namespace Go.Sy
open Go Go.Proofs
set_option linter.unusedSectionVars false
abbrev encI (n : Int) : Value := .int .i64 n
theorem encI_inj {p q : Int} (h : encI p = encI q) : p = q := by cases h; rfl
variable {P : Program} {F : Int → Value}
structure SetN (F : Int → Value) (S : List Int) (es : Array MapEntry) (c : Nat) : Prop where
  keys : es.toList.map (·.key) = S.map encI
  val : ∀ e ∈ es.toList, ∀ p, e.key = encI p → e.val = F p
  nd : S.Nodup
  born : (es.toList.map (·.born)).Nodup
  old : ∀ e ∈ es.toList, e.born < c
theorem SetN.nil (F : Int → Value) : SetN F [] #[] 0 := ⟨rfl, fun e h => by simp at h, .nil, .nil, fun e h => by simp at h⟩
theorem ask_list {F : Int → Value} (p : Int) : ∀ (l : List MapEntry) (S : List Int), l.map (·.key) = S.map encI → (∀ e ∈ l, ∀ p, e.key = encI p → e.val = F p) → askL p l = if p ∈ S then some (F p) else none
  | [], [], _, _ => rfl
  | [], q :: S, h, _ => by simp at h
  | e :: l, [], h, _ => by simp at h
  | e :: l, q :: S, h, hv => by
    rw [List.map_cons, List.map_cons, List.cons.injEq] at h
    rw [ask_hd (k := .i64) (n := q) h.1, ask_list p l S h.2 (fun e he => hv e (.tail _ he))]
    by_cases hq : q = p
    · subst hq
      rw [if_pos rfl, if_pos (.head _), hv e (.head _) q h.1]
    · rw [if_neg hq]
      by_cases hp : p ∈ S
      · rw [if_pos hp, if_pos (.tail _ hp)]
      · rw [if_neg hp, if_neg (fun h => (List.mem_cons.1 h).elim (fun h => hq h.symm) hp)]
theorem SetN.mapI {S : List Int} {es : Array MapEntry} {c : Nat} (h : SetN F S es c) : MapI .i64 (fun p => if p ∈ S then some (F p) else none) es :=
  ⟨fun e he => by
    have h1 : e.key ∈ S.map encI := by rw [← h.keys]; exact List.mem_map.2 ⟨e, he, rfl⟩
    obtain ⟨p, _, hp⟩ := List.mem_map.1 h1
    exact ⟨p, hp.symm⟩, fun p => ask_list p _ S h.keys h.val⟩
section
variable {r : Option Nat} {all : Array Oper} {Q : Exit → Act → World → Prop} {rest : List Oper} {a : Act} {w w0 : World} {M : List Nat} {H : List (Nat × Obj)} {L : List (Nat × Value)} {n : Nat} {ds : List Deferred} {d : Nat} {ty : TypeId} {pos : String} {af : Array Edge} {gd : Option (Nat × Bool)}
theorem ops_putN {t ke el : TypeId} {x y z : Operand} {bm c i : Nat} {es : Array MapEntry} {p : Int} {S : List Int} (hf : Fr n ds L a) (hh : Hp w0 M H w) (ht : mapTypes P t = some (ke, el, .i64)) (hx : ev L x = some (.map (some bm))) (hy : ev L y = some (.int .i64 p))
    (hv : ev L z = some (F p)) (hi : H[i]? = some (bm, .map es c)) (hm : SetN F S es c) (hp : p ∉ S) (hg : GOn all L ⟨none, .mapUpdate t x y z, ty, pos, af, gd⟩)
    (K : ∀ (es' : Array MapEntry) (c' : Nat) (w : World), SetN F (S ++ [p]) es' c' → Hp w0 M (H.set i (bm, .map es' c')) w → OpsW P r all Q rest a w) : OpsW P r all Q (⟨none, .mapUpdate t x y z, ty, pos, af, gd⟩ :: rest) a w := by
  obtain ⟨h1, h2⟩ := mapTypes_eq ht
  have hb := hh.at hi
  have hgo : (getObj bm).run P w = .ok (.map es c) w := by simp [getObj, Sem.run, hb]
  have hc := run_checkKey_int' (P := P) (w := w) (b := false) (p := p) h2
  have hset : ∀ o, (setObj bm o).run P w = .ok () (w.putObj bm o) := fun o => by simp [setObj, Sem.run, hb, World.putObj]
  have hI := hm.mapI
  have hno : askL p es.toList = none := (hI.get p).trans (if_neg hp)
  rcases find_ask (k := .i64) (p := p) es.toList 0 hI.keys with ⟨j, v0, e, a1, _⟩ | ⟨a1, a2⟩
  · rw [a1] at hno; cases hno
  · refine opsW_skip (w' := w.putObj bm (.map (es.push { key := .int .i64 p, val := F p, born := c }) (c + 1))) (hg.wanted hf) rfl ?_ (K _ _ _ ?_ (hh.put hi _))
    · simp [execOp, hf.agree _ _ hx, hf.agree _ _ hy, hf.agree _ _ hv, Instr.mapUpdate, run_underlying h1, hgo, hc, Instr.findKey, run_underlying h2, a2, hset]
    · refine ⟨?_, fun e he q hq => ?_, ?_, ?_, fun e he => ?_⟩
      · rw [Array.toList_push, List.map_append, List.map_append, hm.keys]; rfl
      · rw [Array.toList_push, List.mem_append] at he
        rcases he with he | he
        · exact hm.val e he q hq
        · rw [List.mem_singleton.1 he] at hq ⊢
          rw [← encI_inj hq]
      · rw [List.nodup_append]
        exact ⟨hm.nd, by simp, fun x hx y hy hxy => by rw [List.mem_singleton.1 hy] at hxy; exact hp (hxy ▸ hx)⟩
      · rw [Array.toList_push, List.map_append, List.nodup_append]
        refine ⟨hm.born, by simp, fun x hx y hy hxy => ?_⟩
        obtain ⟨e, he, rfl⟩ := List.mem_map.1 hx
        have := hm.old e he
        simp at hy
        omega
      · rw [Array.toList_push, List.mem_append] at he
        rcases he with he | he
        · have := hm.old e he; omega
        · rw [List.mem_singleton.1 he]; exact Nat.lt_succ_self _
theorem ops_rangeN {t kt vt : TypeId} {x : Operand} {bm c : Nat} {es : Array MapEntry} (hf : Fr n ds L a) (hh : Hp w0 M H w) (ht : P.underlying t = some (.map kt vt)) (hx : ev L x = some (.map (some bm))) (hb : w.heap[bm]? = some (.map es c)) (hg : GOn all L ⟨some d, .range t x, ty, pos, af, gd⟩) (hn : Nat.blt d n = true)
    (K : ∀ (B : Nat) (o : Obj) (a : Act) (w : World), RngAt encI bm es c [] o → Fr n ds ((d, ptr B 0) :: L) a → Hp w0 M ((B, o) :: H) w → OpsW P r all Q rest a w) : OpsW P r all Q (⟨some d, .range t x, ty, pos, af, gd⟩ :: rest) a w := by
  have hgo : (getObj bm).run P w = .ok (.map es c) w := by simp [getObj, Sem.run, hb]
  refine opsW_value (w' := { w with heap := w.heap.push (.mapIter (some bm) c #[] c) }) (v := ptr w.heap.size 0) (hg.wanted hf) rfl ?_ ?_
  · simp [execOp, hf.agree _ _ hx, Instr.range, run_underlying ht, hgo]
  · exact K w.heap.size _ _ _ ⟨#[], [], rfl, (by simp), rfl, rfl⟩ (hf.put (blt_lt hn) _) (hh.alloc _)
theorem ops_nextN {x : Operand} {B bm c i : Nat} {es : Array MapEntry} {S done : List Int} {o : Obj} (hf : Fr n ds L a) (hh : Hp w0 M H w) (hx : ev L x = some (ptr B 0)) (hi : H[i]? = some (B, o)) (hj : ∀ w, Hp w0 M H w → w.heap[bm]? = some (.map es c)) (hm : SetN F S es c) (ho : RngAt encI bm es c done o) (hg : GOn all L ⟨some d, .next x false, ty, pos, af, gd⟩) (hn : Nat.blt d n = true)
    (K0 : ∀ (a : Act), (∀ p ∈ S, p ∈ done) → Fr n ds ((d, .tuple #[.bool false]) :: L) a → OpsW P r all Q rest a w)
    (K1 : ∀ (p : Int) (o' : Obj) (a : Act) (w : World), p ∈ S → p ∉ done → RngAt encI bm es c (done ++ [p]) o' → Fr n ds ((d, .tuple #[.bool true, encI p, F p]) :: L) a → Hp w0 M (H.set i (B, o')) w → OpsW P r all Q rest a w) : OpsW P r all Q (⟨some d, .next x false, ty, pos, af, gd⟩ :: rest) a w := by
  obtain ⟨seen, dl, rfl, hdl, hdk, hds⟩ := ho
  rcases run_next_at (P := P) w ty B bm c c seen es c (hh.at hi) (hj _ hh) hm.old (Nat.le_refl _) with ⟨h0, hr⟩ | ⟨e, he, w1, hw1, hr⟩
  · refine opsW_value (w' := w) (v := .tuple #[.bool false]) (hg.wanted hf) rfl ?_ (K0 _ ?_ (hf.put (blt_lt hn) _))
    · simp [execOp, hf.agree _ _ hx, hr]
    · intro p hp
      have h9 : encI p ∈ es.toList.map (·.key) := by rw [hm.keys]; exact List.mem_map.2 ⟨p, hp, rfl⟩
      obtain ⟨e, he, hek⟩ := List.mem_map.1 h9
      have hin : e.born ∈ seen.toList := by
        by_cases hs : seen.contains e.born = true
        · rw [Array.contains_iff_mem] at hs; exact Array.mem_toList_iff.2 hs
        · exfalso
          have h8 : e ∈ leftOf es seen := by
            unfold leftOf
            rw [Array.mem_filter]
            exact ⟨Array.mem_toList_iff.1 he, by simpa using hs⟩
          have := Array.size_pos_of_mem h8
          omega
      rw [hds] at hin
      obtain ⟨e', he', hb'⟩ := List.mem_map.1 hin
      have hee : e' = e := map_one hm.born (hdl e' he') he hb'
      have h7 : encI p ∈ done.map encI := by rw [← hdk]; exact List.mem_map.2 ⟨e', he', by rw [hee]; exact hek⟩
      obtain ⟨q, hq, hqe⟩ := List.mem_map.1 h7
      rw [← encI_inj hqe]; exact hq
  · have hle : e ∈ es.toList ∧ e.born ∉ seen := by
      rw [Array.mem_toList_iff] at he
      unfold leftOf at he
      rw [Array.mem_filter] at he
      refine ⟨Array.mem_toList_iff.2 he.1, fun h => ?_⟩
      have h2 := he.2
      simp [h] at h2
    have h9 : e.key ∈ S.map encI := by rw [← hm.keys]; exact List.mem_map.2 ⟨e, hle.1, rfl⟩
    obtain ⟨p, hp, hpe⟩ := List.mem_map.1 h9
    have hpd : p ∉ done := fun hpd => by
      have h8 : encI p ∈ dl.map (·.key) := by rw [hdk]; exact List.mem_map.2 ⟨p, hpd, rfl⟩
      obtain ⟨e', he', hk'⟩ := List.mem_map.1 h8
      have hnd : (es.toList.map (·.key)).Nodup := by
        rw [hm.keys]
        exact List.pairwise_map.2 (hm.nd.imp fun {x y} hxy h => hxy (encI_inj h))
      have hee : e' = e := map_one hnd (hdl e' he') hle.1 (hk'.trans hpe)
      have : e.born ∈ seen.toList := by rw [hds]; exact List.mem_map.2 ⟨e', he', by rw [hee]⟩
      exact hle.2 (Array.mem_toList_iff.1 this)
    have hh1 : Hp w0 M H w1 := by
      rcases hw1 with rfl | rfl
      · exact hh
      · exact hh.drawn _
    have hput := hh1.put hi (.mapIter (some bm) c (seen.push e.born) c)
    refine opsW_value (w' := Go.ChangeMaps.setBlock w1 B (.mapIter (some bm) c (seen.push e.born) c)) (v := .tuple #[.bool true, e.key, e.val]) (hg.wanted hf) rfl ?_ ?_
    · simp [execOp, hf.agree _ _ hx, hr]
    · have hv := hm.val e hle.1 p hpe.symm
      rw [← hpe, hv]
      exact K1 p _ _ _ hp hpd ⟨seen.push e.born, dl ++ [e], rfl, fun x hx => by
        rcases List.mem_append.1 hx with hx | hx
        · exact hdl x hx
        · rw [List.mem_singleton.1 hx]; exact hle.1, by rw [List.map_append, List.map_append, hdk]; show _ ++ [e.key] = _ ++ [encI p]; rw [hpe], by rw [Array.toList_push, List.map_append, hds]; rfl⟩ (hf.put (blt_lt hn) _) hput
theorem ops_nextBN {x : Operand} {B bm c i : Nat} {es : Array MapEntry} {S done : List Int} {o : Obj} (hf : Fr n ds L a) (hh : Hp w0 M H w) (hx : ev L x = some (ptr B 0)) (hi : H[i]? = some (B, o)) (hj : ∀ w, Hp w0 M H w → w.heap[bm]? = some (.map es c)) (hm : SetN F S es c) (ho : RngAt encI bm es c done o) (hg : GOn all L ⟨some d, .next x false, ty, pos, af, gd⟩) (hn : Nat.blt d n = true)
    (K : ∀ (b : Bool) (vs : Array Value) (o' : Obj) (a : Act) (w : World), vs[0]? = some (.bool b) → (b = false → ∀ p ∈ S, p ∈ done) → (b = true → ∃ p, p ∈ S ∧ p ∉ done ∧ RngAt encI bm es c (done ++ [p]) o') → Fr n ds ((d, .tuple vs) :: L) a → Hp w0 M (H.set i (B, o')) w → OpsW P r all Q rest a w) : OpsW P r all Q (⟨some d, .next x false, ty, pos, af, gd⟩ :: rest) a w := by
  refine ops_nextN hf hh hx hi hj hm ho hg hn (fun a h1 hf => K false _ o a w rfl (fun _ => h1) (fun h => by cases h) hf ?_) (fun p o' a w h1 h2 h3 hf hh => K true _ o' a w rfl (fun h => by cases h) (fun _ => ⟨p, h1, h2, h3⟩) hf hh)
  have e : H.set i (B, o) = H := by
    obtain ⟨h1, h2⟩ := List.getElem?_eq_some_iff.1 hi
    rw [← h2]; exact List.set_getElem_self h1
  rw [e]; exact hh
end
section
variable {C : World → Prop} {L : List (Nat × Value)} {dd : Option Tmp} {ty : TypeId} {pos : String} {af : Array Edge} {gd : Option (Nat × Bool)}
theorem yv_entryN {x : Operand} {B bm c : Nat} {es : Array MapEntry} {S done : List Int} {p : Int} {o : Obj} (hx : ev L x = some (ptr B 0)) (hb : ∀ w, C w → w.heap[B]? = some o) (hb2 : ∀ w, C w → w.heap[bm]? = some (.map es c)) (hm : SetN F S es c) (ho : RngAt encI bm es c (done ++ [p]) o) :
    Yv P C L ⟨dd, .entry x, ty, pos, af, gd⟩ (.tuple #[encI p, F p]) := by
  obtain ⟨seen, dl, rfl, hdl, hdk, hds⟩ := ho
  rw [List.map_append] at hdk
  obtain ⟨l1, l2, rfl, _, h2⟩ := List.map_eq_append_iff.1 hdk
  have hl : l2.length = 1 := by have := congrArg List.length h2; simpa using this
  match l2, hl with
  | [e], _ =>
    have hek : e.key = encI p := by simpa using h2
    have hs : seen = (l1.map (·.born)).toArray.push e.born := by
      apply Array.ext'
      rw [hds, Array.toList_push, List.map_append]; rfl
    subst hs
    have hin := hdl e (List.mem_append_right _ (.head _))
    have hv := hm.val e hin p hek
    intro ρ hρ w hw
    have h3 := run_entry_at (P := P) w B bm c _ es c e (hb w hw) (hb2 w hw) hin hm.born
    rw [hek, hv] at h3
    simp [execOp, hρ _ _ hx, h3]
end
end Go.Sy

