/- Lemmas, in order: The entry that a range over a map is at; a map that is laid out; a step of a range, both ways at once. Blocks picked by their places; a block's contents named; blocks of old that a round does not turn.. -/
import Derived.Test.YtccpgpnekoncoaaGreatQ7
namespace Go.Sy
open Go Go.Proofs
set_option linter.unusedSectionVars false
variable {P : Program} {κ : Type} [DecidableEq κ] {enc : κ → Value} {ke : TypeId} {v0 : Value}
section
variable {r : Option Nat} {all : Array Oper} {Q : Exit → Act → World → Prop} {rest : List Oper} {a : Act} {w w0 : World} {M : List Nat} {H : List (Nat × Obj)} {L : List (Nat × Value)} {n : Nat} {ds : List Deferred} {d : Nat} {ty : TypeId} {pos : String} {af : Array Edge} {gd : Option (Nat × Bool)}
theorem ops_insertS {t el : TypeId} {x y z : Operand} {bm c i : Nat} {es : Array MapEntry} {p : κ} {S : List κ} (hf : Fr n ds L a) (hh : Hp w0 M H w) (hk : KeyOk P ke enc) (ht : mapKE P t = some (ke, el)) (hx : ev L x = some (.map (some bm))) (hy : ev L y = some (enc p))
    (hv : ev L z = some v0) (hi : H[i]? = some (bm, .map es c)) (hm : SetV enc v0 S es c) (hg : GOn all L ⟨none, .insert t x y z, ty, pos, af, gd⟩)
    (K : ∀ (es' : Array MapEntry) (c' : Nat) (w : World), SetV enc v0 (insS S p) es' c' → Hp w0 M (H.set i (bm, .map es' c')) w → OpsW P r all Q rest a w) : OpsW P r all Q (⟨none, .insert t x y z, ty, pos, af, gd⟩ :: rest) a w := by
  have h1 := mapKE_eq ht
  have hb := hh.at hi
  have hgo : (getObj bm).run P w = .ok (.map es c) w := by simp [getObj, Sem.run, hb]
  have hc := hk.chk false p w
  have hset : ∀ o, (setObj bm o).run P w = .ok () (w.putObj bm o) := fun o => by simp [setObj, Sem.run, hb, World.putObj]
  have hfm := find_memoV hk p hm.memo
  rcases hfm with ⟨j, a2, e, hej, a5⟩ | a2
  all_goals replace a2 := a2 w
  · have hkeep : (Instr.keyThatStays (((es[j]?).map (·.key)).getD (enc p)) (enc p)).run P w = .ok (enc p) w := by
      rw [hej]; simp [a5, Instr.keyThatStays, hk.bits]
    refine opsW_skip (w' := w.putObj bm (.map (es.modify j fun e => { e with key := enc p, val := v0 }) c)) (hg.wanted hf) rfl ?_ (K _ _ _ ?_ (hh.put hi _))
    · simp [execOp, hf.agree _ _ hx, hf.agree _ _ hy, hf.agree _ _ hv, Instr.mapUpdate, run_underlying h1, hgo, hc, a2, hkeep, hset]
    · have hjl := (Array.getElem?_eq_some_iff.1 hej).1
      have hje := (Array.getElem?_eq_some_iff.1 hej).2
      have hes : es.modify j (fun e => { e with key := enc p, val := v0 }) = es := by
        apply Array.ext
        · simp
        · intro i h1 h2
          rw [Array.getElem_modify]
          split
          · rename_i hji
            subst hji
            have hv2 := hm.val e (by rw [← hje]; simp)
            rw [hje, ← a5, ← hv2]
          · rfl
      have hin : p ∈ S := by
        have : e.key ∈ S.map enc := by rw [← hm.keys]; exact List.mem_map.2 ⟨e, by rw [← hje]; simp, rfl⟩
        obtain ⟨q, hq, he⟩ := List.mem_map.1 this
        have : q = p := inj_of hk w (by rw [he, a5])
        rw [← this]; exact hq
      rw [hes, insS, if_pos hin]
      exact hm
  · refine opsW_skip (w' := w.putObj bm (.map (es.push { key := enc p, val := v0, born := c }) (c + 1))) (hg.wanted hf) rfl ?_ (K _ _ _ ?_ (hh.put hi _))
    · simp [execOp, hf.agree _ _ hx, hf.agree _ _ hy, hf.agree _ _ hv, Instr.mapUpdate, run_underlying h1, hgo, hc, a2, hset]
    · have hno : p ∉ S := fun hp => by
        have h9 : enc p ∈ es.toList.map (·.key) := by rw [hm.keys]; exact List.mem_map.2 ⟨p, hp, rfl⟩
        obtain ⟨e, he, hek⟩ := List.mem_map.1 h9
        exact find_in hk p hm.memo ⟨e, he, hek⟩ w a2
      rw [insS, if_neg hno]
      refine ⟨?_, fun e he => ?_, ?_, ?_, fun e he => ?_⟩
      · rw [Array.toList_push, List.map_append, List.map_append, hm.keys]; rfl
      · rw [Array.toList_push, List.mem_append] at he
        rcases he with he | he
        · exact hm.val e he
        · rw [List.mem_singleton.1 he]
      · rw [List.nodup_append]
        exact ⟨hm.nd, by simp, fun x hx y hy hxy => by rw [List.mem_singleton.1 hy] at hxy; exact hno (hxy ▸ hx)⟩
      · rw [Array.toList_push, List.map_append, List.nodup_append]
        refine ⟨hm.born, by simp, fun x hx y hy hxy => ?_⟩
        obtain ⟨e, he, rfl⟩ := List.mem_map.1 hx
        have := hm.old e he
        simp at hy
        omega
      · rw [Array.toList_push, List.mem_append] at he
        rcases he with he | he
        · have := hm.old e he; omega
        · rw [List.mem_singleton.1 he]; exact Nat.lt_succ_self _
theorem ops_nextB {x : Operand} {B bm c i j : Nat} {es : Array MapEntry} {S done : List κ} {o : Obj} (hk : KeyOk P ke enc) (hf : Fr n ds L a) (hh : Hp w0 M H w) (hx : ev L x = some (ptr B 0)) (hi : H[i]? = some (B, o)) (hj : H[j]? = some (bm, .map es c)) (hm : SetV enc v0 S es c) (ho : RngAt enc bm es c done o) (hg : GOn all L ⟨some d, .next x false, ty, pos, af, gd⟩) (hn : Nat.blt d n = true)
    (K : ∀ (b : Bool) (vs : Array Value) (o' : Obj) (a : Act) (w : World), vs[0]? = some (.bool b) → (b = false → ∀ p ∈ S, p ∈ done) → (b = true → ∃ p, p ∈ S ∧ p ∉ done ∧ RngAt enc bm es c (done ++ [p]) o') → Fr n ds ((d, .tuple vs) :: L) a → Hp w0 M (H.set i (B, o')) w → OpsW P r all Q rest a w) : OpsW P r all Q (⟨some d, .next x false, ty, pos, af, gd⟩ :: rest) a w := by
  refine ops_next hk hf hh hx hi hj hm ho hg hn (fun a h1 hf => K false _ o a w rfl (fun _ => h1) (fun h => by cases h) hf ?_) (fun p o' a w h1 h2 h3 hf hh => K true _ o' a w rfl (fun h => by cases h) (fun _ => ⟨p, h1, h2, h3⟩) hf hh)
  have e : H.set i (B, o) = H := by
    obtain ⟨h1, h2⟩ := List.getElem?_eq_some_iff.1 hi
    rw [← h2]; exact List.set_getElem_self h1
  rw [e]; exact hh
end
section
variable {C : World → Prop} {L : List (Nat × Value)} {dd : Option Tmp} {ty : TypeId} {pos : String} {af : Array Edge} {gd : Option (Nat × Bool)}
theorem yv_entry {x : Operand} {B bm c : Nat} {es : Array MapEntry} {S done : List κ} {p : κ} {o : Obj} (hx : ev L x = some (ptr B 0)) (hb : ∀ w, C w → w.heap[B]? = some o) (hb2 : ∀ w, C w → w.heap[bm]? = some (.map es c)) (hm : SetV enc v0 S es c) (ho : RngAt enc bm es c (done ++ [p]) o) :
    Yv P C L ⟨dd, .entry x, ty, pos, af, gd⟩ (.tuple #[enc p, v0]) := by
  obtain ⟨seen, dl, rfl, hdl, hdk, hds⟩ := ho
  rw [List.map_append] at hdk
  obtain ⟨l1, l2, rfl, _, h2⟩ := List.map_eq_append_iff.1 hdk
  have hl : l2.length = 1 := by have := congrArg List.length h2; simpa using this
  match l2, hl with
  | [e], _ =>
    have hek : e.key = enc p := by simpa using h2
    have hs : seen = (l1.map (·.born)).toArray.push e.born := by
      apply Array.ext'
      rw [hds, Array.toList_push, List.map_append]; rfl
    subst hs
    have hin := hdl e (List.mem_append_right _ (.head _))
    have hv := hm.val e hin
    intro ρ hρ w hw
    have h3 := run_entry_at (P := P) w B bm c _ es c e (hb w hw) (hb2 w hw) hin hm.born
    rw [hek, hv] at h3
    simp [execOp, hρ _ _ hx, h3]
end
/-- How many keys are still to come. -/
def leftS (S done : List κ) : Nat := (S.filter fun x => decide (x ∉ done)).length
theorem leftS_le : ∀ (S done : List κ) (p : κ), leftS S (done ++ [p]) ≤ leftS S done
  | [], _, _ => Nat.le_refl _
  | x :: S, done, p => by
    have ih := leftS_le S done p
    unfold leftS at ih ⊢
    rw [List.filter_cons, List.filter_cons]
    by_cases h1 : x ∈ done
    · rw [if_neg (by simp [h1]), if_neg (by simp [h1])]; exact ih
    · rw [if_pos (c := decide (x ∉ done) = true) (by simp [h1])]
      split
      · rw [List.length_cons, List.length_cons]; omega
      · rw [List.length_cons]; omega
theorem leftS_lt : ∀ {S done : List κ} {p : κ}, p ∈ S → p ∉ done → leftS S (done ++ [p]) < leftS S done
  | [], _, _, h, _ => by cases h
  | x :: S, done, p, h, hn => by
    by_cases hx : x = p
    · subst hx
      have h2 := leftS_le S done x
      unfold leftS at h2 ⊢
      rw [List.filter_cons, List.filter_cons, if_pos (c := decide (x ∉ done) = true) (by simp [hn]), if_neg (by simp), List.length_cons]
      omega
    · have ih := leftS_lt (S := S) (done := done) (p := p) (by rcases List.mem_cons.1 h with h | h; exact absurd h.symm hx; exact h) hn
      unfold leftS at ih ⊢
      rw [List.filter_cons, List.filter_cons]
      by_cases h1 : x ∈ done
      · rw [if_neg (by simp [h1]), if_neg (by simp [h1])]; exact ih
      · rw [if_pos (c := decide (x ∉ done) = true) (by simp [h1]), if_pos (by simp [h1, hx]), List.length_cons, List.length_cons]
        omega
end Go.Sy

namespace Go.Sy
open Go Go.Proofs
theorem pick_mem {α : Type} {H : List α} {is : List Nat} {q : α} (h : q ∈ is.filterMap fun i => H[i]?) : ∃ i ∈ is, H[i]? = some q := List.mem_filterMap.1 h
theorem pick_nodup {H : List (Nat × Obj)} (hn : (H.map Prod.fst).Nodup) : ∀ {is : List Nat}, is.Nodup → ((is.filterMap fun i => H[i]?).map Prod.fst).Nodup
  | [], _ => .nil
  | i :: is, hd => by
    rw [List.nodup_cons] at hd
    have ih := pick_nodup hn hd.2
    rw [List.filterMap_cons]
    cases hi : H[i]? with
    | none => exact ih
    | some q =>
      show (q.1 :: _).Nodup
      rw [List.nodup_cons]
      refine ⟨fun h => ?_, ih⟩
      obtain ⟨q', hq', e⟩ := List.mem_map.1 h
      obtain ⟨j, hj, hjq⟩ := pick_mem hq'
      have e1 : (H.map Prod.fst)[i]? = some q.1 := by rw [List.getElem?_map, hi]; rfl
      have e2 : (H.map Prod.fst)[j]? = some q.1 := by rw [List.getElem?_map, hjq, ← e]; rfl
      have hil : i < (H.map Prod.fst).length := (List.getElem?_eq_some_iff.1 e1).1
      have := (List.getElem?_inj hil hn).1 (e1.trans e2.symm)
      exact hd.1 (this ▸ hj)
theorem Hp.pick {w0 w : World} {M : List Nat} {H : List (Nat × Obj)} (h : Hp w0 M H w) (is : List Nat) (hd : is.Nodup := by decide) : Hp w0 M (is.filterMap fun i => H[i]?) w :=
  ⟨h.ext, fun q hq => by obtain ⟨i, _, e⟩ := pick_mem hq; exact h.get q (List.mem_of_getElem? e), pick_nodup h.nodup hd, fun q hq => by obtain ⟨i, _, e⟩ := pick_mem hq; exact h.mine q (List.mem_of_getElem? e)⟩
/-- The contents of a block, by a name. -/
theorem Hp.name {w0 w : World} {M : List Nat} {A B : List (Nat × Obj)} {b : Nat} {o : Obj} (h : Hp w0 M (A ++ (b, o) :: B) w) : ∃ z, z = o ∧ Hp w0 M (A ++ (b, z) :: B) w := ⟨o, rfl, h⟩
theorem round_off {u v : World} {l D b : Nat} {H : List (Nat × Obj)} {lp : Loop} {ds : Option (List Deferred)} {c : Array Value} {T : TypeId} {fr : Nat × Nat} (hv : Hp u [] H v) (hl : v.heap[l]? = some (.loop lp)) (hD : v.heap[D]? = some (.deferred ds)) (hb : u.heap[b]? = some (.cells c T fr)) : b ∉ l :: D :: H.map Prod.fst := fun h => by
  have hb2 := hv.old hb
  rcases List.mem_cons.1 h with h | h
  · subst h; rw [hb2] at hl; cases hl
  · rcases List.mem_cons.1 h with h | h
    · subst h; rw [hb2] at hD; cases hD
    · obtain ⟨q, hq, rfl⟩ := List.mem_map.1 h
      have := (Array.getElem?_eq_some_iff.1 hb).1
      rcases hv.mine q hq with h1 | h1
      · omega
      · cases h1
/-- What blocks hold that the rounds of a range do not turn. -/
theorem Hp.held {u w : World} {H X : List (Nat × Obj)} {is : List Nat} (h : Hp u [] H w) (hX : X = is.filterMap fun i => H[i]?) (js : List Nat) (hj : ∀ j ∈ js, j ∉ is := by decide) : Held (X.map Prod.fst) w (js.filterMap fun j => H[j]?) := fun q hq => by
  obtain ⟨j, hjs, e⟩ := pick_mem hq
  refine ⟨h.get q (List.mem_of_getElem? e), fun hx => ?_⟩
  rw [hX] at hx
  obtain ⟨q', hq', e'⟩ := List.mem_map.1 hx
  obtain ⟨i, hi, ei⟩ := pick_mem hq'
  have e1 : (H.map Prod.fst)[j]? = some q.1 := by rw [List.getElem?_map, e]; rfl
  have e2 : (H.map Prod.fst)[i]? = some q.1 := by rw [List.getElem?_map, ei, ← e']; rfl
  have hil : j < (H.map Prod.fst).length := (List.getElem?_eq_some_iff.1 e1).1
  have := (List.getElem?_inj hil h.nodup).1 (e1.trans e2.symm)
  exact hj j hjs (this ▸ hi)
theorem Hp.fresh {u w : World} {H : List (Nat × Obj)} (h : Hp u [] H w) : ∀ x ∈ H.map Prod.fst, u.heap.size ≤ x := fun x hx => by
  obtain ⟨q, hq, rfl⟩ := List.mem_map.1 hx
  rcases h.mine q hq with h1 | h1
  · exact h1
  · cases h1
theorem Held.old {u w : World} {H l : List (Nat × Obj)} {b : Nat} {o : Obj} (h : Hp u [] H w) (hb : u.heap[b]? = some o) (hl : Held (H.map Prod.fst) w l) : Held (H.map Prod.fst) w ((b, o) :: l) :=
  Held.cons (h.old hb) (fun hx => by
    have := h.fresh _ hx
    have := (Array.getElem?_eq_some_iff.1 hb).1
    omega) hl
theorem Held.app {N : List Nat} {w : World} {l m : List (Nat × Obj)} (h1 : Held N w l) (h2 : Held N w m) : Held N w (l ++ m) := fun q hq => (List.mem_append.1 hq).elim (h1 q) (h2 q)
end Go.Sy

