/- Lemmas, in order: The entry that a range over a map is at; a map that is laid out; a step of a range, both ways at once. Blocks picked by their places; a block's contents named; blocks of old that a round does not turn. An array as a whole, as a slice. Maps whose keys are structs or arrays of integers, inside one another. Blocks picked by their places ahead of others that stay. Slices of slices of numbers that a row is handed. Values that hold at this world alone. Bits of numbers with a sign that are not less than nought.. -/
import Derived.Test.YtccjnjhlnpgocaaQ9
namespace Go.Sy
open Go Go.Proofs
set_option linter.unusedSectionVars false
variable {P : Program} {κ : Type} [DecidableEq κ] {enc : κ → Value} {ke : TypeId} {v0 : Value}
section
variable {r : Option Nat} {all : Array Oper} {Q : Exit → Act → World → Prop} {rest : List Oper} {a : Act} {w w0 : World} {M : List Nat} {H : List (Nat × Obj)} {L : List (Nat × Value)} {n : Nat} {ds : List Deferred} {d : Nat} {ty : TypeId} {pos : String} {af : Array Edge} {gd : Option (Nat × Bool)}
theorem ops_insertS {t el : TypeId} {x y z : Operand} {bm c i : Nat} {es : Array MapEntry} {p : κ} {S : List κ} (hf : Fr n ds L a) (hh : Hp w0 M H w) (hk : KeyOk P ke enc) (ht : mapKE P t = some (ke, el)) (hx : ev L x = some (.map (some bm))) (hy : ev L y = some (enc p))
    (hv : ev L z = some v0) (hi : H[i]? = some (bm, .map es c)) (hm : SetV enc v0 S es c) (hg : GOn all L ⟨none, .insert t x y z, ty, pos, af, gd⟩)
    (K : ∀ (es' : Array MapEntry) (c' : Nat) (w : World), SetV enc v0 (insS S p) es' c' → Hp w0 M (H.set i (bm, .map es' c')) w → OpsW P r all Q rest a w) : OpsW P r all Q (⟨none, .insert t x y z, ty, pos, af, gd⟩ :: rest) a w := by
  have h1 := mapKE_eq ht
  have hb := hh.at hi
  have hgo : (getObj bm).run P w = .ok (.map es c) w := by simp [getObj, Sem.run, hb]
  have hc := hk.chk false p w
  have hset : ∀ o, (setObj bm o).run P w = .ok () (w.putObj bm o) := fun o => by simp [setObj, Sem.run, hb, World.putObj]
  have hfm := find_memoV hk p hm.memo
  rcases hfm with ⟨j, a2, e, hej, a5⟩ | a2
  all_goals replace a2 := a2 w
  · have hkeep : (Instr.keyThatStays (((es[j]?).map (·.key)).getD (enc p)) (enc p)).run P w = .ok (enc p) w := by
      rw [hej]; simp [a5, Instr.keyThatStays, hk.bits]
    refine opsW_skip (w' := w.putObj bm (.map (es.modify j fun e => { e with key := enc p, val := v0 }) c)) (hg.wanted hf) rfl ?_ (K _ _ _ ?_ (hh.put hi _))
    · simp [execOp, hf.agree _ _ hx, hf.agree _ _ hy, hf.agree _ _ hv, Instr.mapUpdate, run_underlying h1, hgo, hc, a2, hkeep, hset]
    · have hjl := (Array.getElem?_eq_some_iff.1 hej).1
      have hje := (Array.getElem?_eq_some_iff.1 hej).2
      have hes : es.modify j (fun e => { e with key := enc p, val := v0 }) = es := by
        apply Array.ext
        · simp
        · intro i h1 h2
          rw [Array.getElem_modify]
          split
          · rename_i hji
            subst hji
            have hv2 := hm.val e (by rw [← hje]; simp)
            rw [hje, ← a5, ← hv2]
          · rfl
      have hin : p ∈ S := by
        have : e.key ∈ S.map enc := by rw [← hm.keys]; exact List.mem_map.2 ⟨e, by rw [← hje]; simp, rfl⟩
        obtain ⟨q, hq, he⟩ := List.mem_map.1 this
        have : q = p := inj_of hk w (by rw [he, a5])
        rw [← this]; exact hq
      rw [hes, insS, if_pos hin]
      exact hm
  · refine opsW_skip (w' := w.putObj bm (.map (es.push { key := enc p, val := v0, born := c }) (c + 1))) (hg.wanted hf) rfl ?_ (K _ _ _ ?_ (hh.put hi _))
    · simp [execOp, hf.agree _ _ hx, hf.agree _ _ hy, hf.agree _ _ hv, Instr.mapUpdate, run_underlying h1, hgo, hc, a2, hset]
    · have hno : p ∉ S := fun hp => by
        have h9 : enc p ∈ es.toList.map (·.key) := by rw [hm.keys]; exact List.mem_map.2 ⟨p, hp, rfl⟩
        obtain ⟨e, he, hek⟩ := List.mem_map.1 h9
        exact find_in hk p hm.memo ⟨e, he, hek⟩ w a2
      rw [insS, if_neg hno]
      refine ⟨?_, fun e he => ?_, ?_, ?_, fun e he => ?_⟩
      · rw [Array.toList_push, List.map_append, List.map_append, hm.keys]; rfl
      · rw [Array.toList_push, List.mem_append] at he
        rcases he with he | he
        · exact hm.val e he
        · rw [List.mem_singleton.1 he]
      · rw [List.nodup_append]
        exact ⟨hm.nd, by simp, fun x hx y hy hxy => by rw [List.mem_singleton.1 hy] at hxy; exact hno (hxy ▸ hx)⟩
      · rw [Array.toList_push, List.map_append, List.nodup_append]
        refine ⟨hm.born, by simp, fun x hx y hy hxy => ?_⟩
        obtain ⟨e, he, rfl⟩ := List.mem_map.1 hx
        have := hm.old e he
        simp at hy
        omega
      · rw [Array.toList_push, List.mem_append] at he
        rcases he with he | he
        · have := hm.old e he; omega
        · rw [List.mem_singleton.1 he]; exact Nat.lt_succ_self _
theorem ops_nextB {x : Operand} {B bm c i j : Nat} {es : Array MapEntry} {S done : List κ} {o : Obj} (hk : KeyOk P ke enc) (hf : Fr n ds L a) (hh : Hp w0 M H w) (hx : ev L x = some (ptr B 0)) (hi : H[i]? = some (B, o)) (hj : H[j]? = some (bm, .map es c)) (hm : SetV enc v0 S es c) (ho : RngAt enc bm es c done o) (hg : GOn all L ⟨some d, .next x false, ty, pos, af, gd⟩) (hn : Nat.blt d n = true)
    (K : ∀ (b : Bool) (vs : Array Value) (o' : Obj) (a : Act) (w : World), vs[0]? = some (.bool b) → (b = false → ∀ p ∈ S, p ∈ done) → (b = true → ∃ p, p ∈ S ∧ p ∉ done ∧ RngAt enc bm es c (done ++ [p]) o') → Fr n ds ((d, .tuple vs) :: L) a → Hp w0 M (H.set i (B, o')) w → OpsW P r all Q rest a w) : OpsW P r all Q (⟨some d, .next x false, ty, pos, af, gd⟩ :: rest) a w := by
  refine ops_next hk hf hh hx hi hj hm ho hg hn (fun a h1 hf => K false _ o a w rfl (fun _ => h1) (fun h => by cases h) hf ?_) (fun p o' a w h1 h2 h3 hf hh => K true _ o' a w rfl (fun h => by cases h) (fun _ => ⟨p, h1, h2, h3⟩) hf hh)
  have e : H.set i (B, o) = H := by
    obtain ⟨h1, h2⟩ := List.getElem?_eq_some_iff.1 hi
    rw [← h2]; exact List.set_getElem_self h1
  rw [e]; exact hh
end
section
variable {C : World → Prop} {L : List (Nat × Value)} {dd : Option Tmp} {ty : TypeId} {pos : String} {af : Array Edge} {gd : Option (Nat × Bool)}
theorem yv_entry {x : Operand} {B bm c : Nat} {es : Array MapEntry} {S done : List κ} {p : κ} {o : Obj} (hx : ev L x = some (ptr B 0)) (hb : ∀ w, C w → w.heap[B]? = some o) (hb2 : ∀ w, C w → w.heap[bm]? = some (.map es c)) (hm : SetV enc v0 S es c) (ho : RngAt enc bm es c (done ++ [p]) o) :
    Yv P C L ⟨dd, .entry x, ty, pos, af, gd⟩ (.tuple #[enc p, v0]) := by
  obtain ⟨seen, dl, rfl, hdl, hdk, hds⟩ := ho
  rw [List.map_append] at hdk
  obtain ⟨l1, l2, rfl, _, h2⟩ := List.map_eq_append_iff.1 hdk
  have hl : l2.length = 1 := by have := congrArg List.length h2; simpa using this
  match l2, hl with
  | [e], _ =>
    have hek : e.key = enc p := by simpa using h2
    have hs : seen = (l1.map (·.born)).toArray.push e.born := by
      apply Array.ext'
      rw [hds, Array.toList_push, List.map_append]; rfl
    subst hs
    have hin := hdl e (List.mem_append_right _ (.head _))
    have hv := hm.val e hin
    intro ρ hρ w hw
    have h3 := run_entry_at (P := P) w B bm c _ es c e (hb w hw) (hb2 w hw) hin hm.born
    rw [hek, hv] at h3
    simp [execOp, hρ _ _ hx, h3]
end
/-- How many keys are still to come. -/
def leftS (S done : List κ) : Nat := (S.filter fun x => decide (x ∉ done)).length
theorem leftS_le : ∀ (S done : List κ) (p : κ), leftS S (done ++ [p]) ≤ leftS S done
  | [], _, _ => Nat.le_refl _
  | x :: S, done, p => by
    have ih := leftS_le S done p
    unfold leftS at ih ⊢
    rw [List.filter_cons, List.filter_cons]
    by_cases h1 : x ∈ done
    · rw [if_neg (by simp [h1]), if_neg (by simp [h1])]; exact ih
    · rw [if_pos (c := decide (x ∉ done) = true) (by simp [h1])]
      split
      · rw [List.length_cons, List.length_cons]; omega
      · rw [List.length_cons]; omega
theorem leftS_lt : ∀ {S done : List κ} {p : κ}, p ∈ S → p ∉ done → leftS S (done ++ [p]) < leftS S done
  | [], _, _, h, _ => by cases h
  | x :: S, done, p, h, hn => by
    by_cases hx : x = p
    · subst hx
      have h2 := leftS_le S done x
      unfold leftS at h2 ⊢
      rw [List.filter_cons, List.filter_cons, if_pos (c := decide (x ∉ done) = true) (by simp [hn]), if_neg (by simp), List.length_cons]
      omega
    · have ih := leftS_lt (S := S) (done := done) (p := p) (by rcases List.mem_cons.1 h with h | h; exact absurd h.symm hx; exact h) hn
      unfold leftS at ih ⊢
      rw [List.filter_cons, List.filter_cons]
      by_cases h1 : x ∈ done
      · rw [if_neg (by simp [h1]), if_neg (by simp [h1])]; exact ih
      · rw [if_pos (c := decide (x ∉ done) = true) (by simp [h1]), if_pos (by simp [h1, hx]), List.length_cons, List.length_cons]
        omega
end Go.Sy
namespace Go.Sy
open Go Go.Proofs
theorem pick_mem {α : Type} {H : List α} {is : List Nat} {q : α} (h : q ∈ is.filterMap fun i => H[i]?) : ∃ i ∈ is, H[i]? = some q := List.mem_filterMap.1 h
theorem pick_nodup {H : List (Nat × Obj)} (hn : (H.map Prod.fst).Nodup) : ∀ {is : List Nat}, is.Nodup → ((is.filterMap fun i => H[i]?).map Prod.fst).Nodup
  | [], _ => .nil
  | i :: is, hd => by
    rw [List.nodup_cons] at hd
    have ih := pick_nodup hn hd.2
    rw [List.filterMap_cons]
    cases hi : H[i]? with
    | none => exact ih
    | some q =>
      show (q.1 :: _).Nodup
      rw [List.nodup_cons]
      refine ⟨fun h => ?_, ih⟩
      obtain ⟨q', hq', e⟩ := List.mem_map.1 h
      obtain ⟨j, hj, hjq⟩ := pick_mem hq'
      have e1 : (H.map Prod.fst)[i]? = some q.1 := by rw [List.getElem?_map, hi]; rfl
      have e2 : (H.map Prod.fst)[j]? = some q.1 := by rw [List.getElem?_map, hjq, ← e]; rfl
      have hil : i < (H.map Prod.fst).length := (List.getElem?_eq_some_iff.1 e1).1
      have := (List.getElem?_inj hil hn).1 (e1.trans e2.symm)
      exact hd.1 (this ▸ hj)
theorem Hp.pick {w0 w : World} {M : List Nat} {H : List (Nat × Obj)} (h : Hp w0 M H w) (is : List Nat) (hd : is.Nodup := by decide) : Hp w0 M (is.filterMap fun i => H[i]?) w :=
  ⟨h.ext, fun q hq => by obtain ⟨i, _, e⟩ := pick_mem hq; exact h.get q (List.mem_of_getElem? e), pick_nodup h.nodup hd, fun q hq => by obtain ⟨i, _, e⟩ := pick_mem hq; exact h.mine q (List.mem_of_getElem? e)⟩
/-- The contents of a block, by a name. -/
theorem Hp.name {w0 w : World} {M : List Nat} {A B : List (Nat × Obj)} {b : Nat} {o : Obj} (h : Hp w0 M (A ++ (b, o) :: B) w) : ∃ z, z = o ∧ Hp w0 M (A ++ (b, z) :: B) w := ⟨o, rfl, h⟩
theorem round_off {u v : World} {l D b : Nat} {H : List (Nat × Obj)} {lp : Loop} {ds : Option (List Deferred)} {c : Array Value} {T : TypeId} {fr : Nat × Nat} (hv : Hp u [] H v) (hl : v.heap[l]? = some (.loop lp)) (hD : v.heap[D]? = some (.deferred ds)) (hb : u.heap[b]? = some (.cells c T fr)) : b ∉ l :: D :: H.map Prod.fst := fun h => by
  have hb2 := hv.old hb
  rcases List.mem_cons.1 h with h | h
  · subst h; rw [hb2] at hl; cases hl
  · rcases List.mem_cons.1 h with h | h
    · subst h; rw [hb2] at hD; cases hD
    · obtain ⟨q, hq, rfl⟩ := List.mem_map.1 h
      have := (Array.getElem?_eq_some_iff.1 hb).1
      rcases hv.mine q hq with h1 | h1
      · omega
      · cases h1
/-- What blocks hold that the rounds of a range do not turn. -/
theorem Hp.held {u w : World} {H X : List (Nat × Obj)} {is : List Nat} (h : Hp u [] H w) (hX : X = is.filterMap fun i => H[i]?) (js : List Nat) (hj : ∀ j ∈ js, j ∉ is := by decide) : Held (X.map Prod.fst) w (js.filterMap fun j => H[j]?) := fun q hq => by
  obtain ⟨j, hjs, e⟩ := pick_mem hq
  refine ⟨h.get q (List.mem_of_getElem? e), fun hx => ?_⟩
  rw [hX] at hx
  obtain ⟨q', hq', e'⟩ := List.mem_map.1 hx
  obtain ⟨i, hi, ei⟩ := pick_mem hq'
  have e1 : (H.map Prod.fst)[j]? = some q.1 := by rw [List.getElem?_map, e]; rfl
  have e2 : (H.map Prod.fst)[i]? = some q.1 := by rw [List.getElem?_map, ei, ← e']; rfl
  have hil : j < (H.map Prod.fst).length := (List.getElem?_eq_some_iff.1 e1).1
  have := (List.getElem?_inj hil h.nodup).1 (e1.trans e2.symm)
  exact hj j hjs (this ▸ hi)
theorem Hp.fresh {u w : World} {H : List (Nat × Obj)} (h : Hp u [] H w) : ∀ x ∈ H.map Prod.fst, u.heap.size ≤ x := fun x hx => by
  obtain ⟨q, hq, rfl⟩ := List.mem_map.1 hx
  rcases h.mine q hq with h1 | h1
  · exact h1
  · cases h1
theorem Held.old {u w : World} {H l : List (Nat × Obj)} {b : Nat} {o : Obj} (h : Hp u [] H w) (hb : u.heap[b]? = some o) (hl : Held (H.map Prod.fst) w l) : Held (H.map Prod.fst) w ((b, o) :: l) :=
  Held.cons (h.old hb) (fun hx => by
    have := h.fresh _ hx
    have := (Array.getElem?_eq_some_iff.1 hb).1
    omega) hl
theorem Held.app {N : List Nat} {w : World} {l m : List (Nat × Obj)} (h1 : Held N w l) (h2 : Held N w m) : Held N w (l ++ m) := fun q hq => (List.mem_append.1 hq).elim (h1 q) (h2 q)
end Go.Sy
namespace Go.Sy
open Go Go.Proofs
section
variable {P : Program} {C : World → Prop} {L : List (Nat × Value)} {dd : Option Tmp} {ty : TypeId} {pos : String} {af : Array Edge} {gd : Option (Nat × Bool)}
theorem yv_sliceArr {t e : TypeId} {m sz : Nat} {x : Operand} {b : Nat} (ht : arrayElem P t = some (m, e, sz)) (hx : ev L x = some (ptr b 0)) : Yv P C L ⟨dd, .slice t x none none none, ty, pos, af, gd⟩ (.slice (some ⟨b, 0, none⟩) m m) := fun ρ hρ w _ => by
  unfold arrayElem at ht
  split at ht
  · rename_i n' e' he
    cases hin : P.info? e' with
    | none => rw [hin] at ht; simp at ht
    | some inf =>
      rw [hin] at ht; simp at ht
      obtain ⟨rfl, rfl, rfl⟩ := ht
      have h : (⟨b, 0, none⟩ : Addr).add 0 = ⟨b, 0, none⟩ := rfl
      by_cases h0 : n' = 0
      · simp [execOp, hρ _ _ hx, Instr.sliceAt, Instr.sureAddr, run_underlying he, Instr.sliceBounds, sizeOf, typeInfo, hin, h0]
      · simp [execOp, hρ _ _ hx, Instr.sliceAt, Instr.sureAddr, run_underlying he, Instr.sliceBounds, sizeOf, typeInfo, hin, h0, h]
  · simp at ht
end
end Go.Sy
namespace Go.Sy
open Go Go.Proofs
section
variable {P : Program}
def ChkAt (P : Program) (d : Nat) (t : TypeId) (n : Nat) : Prop := ∀ (b : Bool) (X : Array Value) (o : Nat) (p : List Int) (w : World), p.length = n → IntsIn X o p →
  ∃ u, (part t X o).run P w = .ok u w ∧ (Instr.checkKey b d t u).run P w = .ok () w
theorem flatF_le {d : Nat} : ∀ (fs : List Field) (a b : Nat), flatF P d fs a = some b → a ≤ b
  | [], a, b, h => by simp only [flatF, Option.some.injEq] at h; omega
  | g :: gs, a, b, h => by
    rw [flatF] at h
    split at h
    · split at h
      · have := flatF_le gs _ _ h; omega
      · cases h
    · cases h
theorem run_chkFs {d : Nat} (ih : ∀ t n, flatN P d t = some n → ChkAt P d t n) (b : Bool) : ∀ (fs : List Field) (off m : Nat), flatF P d fs off = some m → ∀ (U : Array Value) (p : List Int) (w : World), off + p.length = m → IntsIn U off p →
    (forIn fs PUnit.unit (fun f (_ : PUnit) => (do if f.name ≠ "_" then Instr.checkKey b d f.type (← part f.type U f.offset)
                                                   pure (ForInStep.yield PUnit.unit) : Sem (ForInStep PUnit)))).run P w = .ok PUnit.unit w
  | [], off, m, h, U, p, w, hp, hU => by simp
  | f :: fs, off, m, h, U, p, w, hp, hU => by
    rw [flatF] at h
    split at h
    · rename_i hf
      split at h
      · rename_i k hk
        have hle := flatF_le fs _ _ h
        obtain ⟨u, h1, h3⟩ := ih f.type k hk b U off (p.take k) w (by rw [List.length_take]; omega) hU.take
        have h4 := run_chkFs ih b fs (off + k) m h U (p.drop k) w (by rw [List.length_drop]; omega) hU.drop
        rw [List.forIn_cons]
        simp only [hf.1, ne_eq, not_false_eq_true, if_true, Sem.run_bind, hf.2, h1, h3, Result.andThen_ok, Sem.run_pure]
        exact h4
      · cases h
    · cases h
theorem run_chkI {d k : Nat} {e : TypeId} {ti : TypeInfo} (hi : P.info? e = some ti) (hck : P.cellsOf e = k) (ih : ChkAt P d e k) (b : Bool) : ∀ (n s : Nat) (U : Array Value) (p : List Int) (w : World), p.length = n * k → IntsIn U (s * k) p →
    (forIn (List.range' s n) PUnit.unit (fun i (_ : PUnit) => (do Instr.checkKey b d e (← part e U (i * (← sizeOf e))); pure (ForInStep.yield PUnit.unit) : Sem (ForInStep PUnit)))).run P w = .ok PUnit.unit w
  | 0, s, U, p, w, hp, _ => by simp
  | n + 1, s, U, p, w, hp, hU => by
    rw [Nat.succ_mul] at hp
    obtain ⟨u, h1, h3⟩ := ih b U (s * k) (p.take k) w (by rw [List.length_take]; omega) hU.take
    have h4 := run_chkI hi hck ih b n (s + 1) U (p.drop k) w (by rw [List.length_drop]; omega) (by rw [Nat.succ_mul]; exact hU.drop)
    rw [List.range'_succ, List.forIn_cons]
    have hs := run_sizeOf w hi
    rw [hck] at hs
    simp only [Sem.run_bind, hs, h1, h3, Result.andThen_ok, Sem.run_pure]
    exact h4
theorem flat_chk : ∀ (d : Nat) (t : TypeId) (n : Nat), flatN P d t = some n → ChkAt P d t n
  | 0, t, n, h => by simp [flatN] at h
  | d + 1, t, n, h => by
    intro b X o p w hp hX
    rw [flatN] at h
    split at h
    · rename_i k hk
      cases h
      have hs : scalB P t = true := by unfold scalB; rw [hk]
      obtain ⟨a, rfl⟩ : ∃ a, p = [a] := by
        match p, hp with
        | [a], _ => exact ⟨a, rfl⟩
      have h1 := hX 0 a rfl
      rw [Nat.add_zero] at h1
      exact ⟨.int .i64 a, by simp [part, run_isAgg_scal hs, h1], by simp [Instr.checkKey, run_underlying hk]⟩
    · rename_i fs hfs
      rw [flat_fold] at h
      split at h
      · rename_i m hm
        split at h
        · rename_i hc
          cases h
          obtain ⟨hs, hag⟩ := hc
          obtain ⟨h3, h4⟩ := run_isAgg_agg (w := w) hag
          refine ⟨.agg (X.extract o (o + n)), by simp [part, h3, h4], ?_⟩
          unfold Instr.checkKey
          simp only [Sem.run_bind, run_underlying hfs, Result.andThen_ok]
          have h5 := run_chkFs (fun t n => flat_chk d t n) b fs.toList 0 n hm (X.extract o (o + n)) p w (by omega) (hX.ext hp)
          rw [Array.forIn_toList] at h5
          simp only [bind_pure_comp] at h5 ⊢
          first
          | exact h5
          | (simp only [h5, Result.andThen_ok]; rfl)
        · cases h
      · cases h
    · rename_i len e hu
      split at h
      · rename_i k hk
        split at h
        · rename_i hc
          cases h
          obtain ⟨hck, hinf, hag⟩ := hc
          obtain ⟨i, hi⟩ := Option.isSome_iff_exists.1 hinf
          obtain ⟨h3, h4⟩ := run_isAgg_agg (w := w) hag
          refine ⟨.agg (X.extract o (o + len * k)), by simp [part, h3, h4], ?_⟩
          unfold Instr.checkKey
          simp only [Sem.run_bind, run_underlying hu, Result.andThen_ok]
          simp only [Std.Legacy.Range.forIn_eq_forIn_range', Std.Legacy.Range.size, Nat.sub_zero, Nat.add_one_sub_one, Nat.div_one]
          have h5 := run_chkI hi hck (flat_chk d e k hk) b len 0 (X.extract o (o + len * k)) p w hp (by rw [Nat.zero_mul]; exact hX.ext hp)
          simp only [bind_pure_comp] at h5 ⊢
          first
          | exact h5
          | (rw [h5]; rfl)
        · cases h
      · cases h
    · cases h
/-- Keys that are made of integers alone. -/
theorem keyFlat {t : TypeId} {n : Nat} {td : TypeDesc} {κ : Type} [DecidableEq κ] (ints : κ → List Int) (inj : ∀ p q, ints p = ints q → p = q) (hl : ∀ p, (ints p).length = n)
    (hB : flatB P t = some n) (hu : P.underlying t = some td) (hs : ∀ x y, Instr.sameNow td (.agg x) (.agg y) = none) :
    KeyOk P t (fun p => .agg ((ints p).map (Value.int .i64)).toArray) := by
  have hB2 := hB
  unfold flatB at hB2
  refine ⟨fun p q w => ?_, fun b p w => ?_, ⟨_, hu, fun p q => hs _ _⟩, fun p => ?_⟩
  · show (Op.equalIn 10000 t _ _).run P w = _
    rw [flat_top hB _ _ w (hl p) (hl q)]
    congr 1
    by_cases h : p = q
    · subst h; simp
    · rw [decide_eq_false h, decide_eq_false fun h' => h (inj _ _ h')]
  · split at hB2
    · rename_i m hm
      split at hB2
      · rename_i hc
        cases hB2
        have h2 : ∀ k, flatN P (9 + k) t = some n := by
          intro k
          induction k with
          | zero => exact hm
          | succ k ih => exact depth_mono ih
        obtain ⟨u, h3, h4⟩ := flat_chk 10000 t n (h2 9991) b _ 0 (ints p) w (hl p) (intsIn_map _)
        obtain ⟨h6, h7⟩ := run_isAgg_agg (w := w) hc.1
        have e2 : ((ints p).map (Value.int .i64)).take n = (ints p).map (Value.int .i64) := List.take_of_length_le (by simp [hl])
        have e : (part t ((ints p).map (Value.int .i64)).toArray 0).run P w = .ok (.agg ((ints p).map (Value.int .i64)).toArray) w := by simp [part, h6, h7, e2]
        rw [e] at h3
        cases h3
        exact h4
      · cases hB2
    · cases hB2
  · have e : ∀ (m : Nat) (x : Int), Instr.sameBits m (.int .i64 x) (.int .i64 x) = true := fun m x => by cases m <;> simp [Instr.sameBits]
    show Instr.sameBits (9999 + 1) _ _ = true
    simp only [Instr.sameBits, beq_self_eq_true, Bool.true_and, List.all_eq_true]
    intro x hx
    obtain ⟨x1, x2⟩ := x
    rw [List.zip_eq_zipWith, List.mem_iff_getElem?] at hx
    obtain ⟨j, hj⟩ := hx
    rw [List.getElem?_zipWith, List.getElem?_map] at hj
    cases h : (ints p)[j]? with
    | none => rw [h] at hj; simp at hj
    | some v => rw [h] at hj; simp at hj; obtain ⟨rfl, rfl⟩ := hj; exact e _ _
end
end Go.Sy
namespace Go.Sy
open Go Go.Proofs
theorem Hp.pickX {w0 w : World} {M : List Nat} {F X : List (Nat × Obj)} (h : Hp w0 M (F ++ X) w) (is : List Nat) (hd : is.Nodup := by decide) : Hp w0 M ((is.filterMap fun i => F[i]?) ++ X) w := by
  have hn := h.nodup
  rw [List.map_append, List.nodup_append] at hn
  have hm : ∀ q ∈ is.filterMap (fun i => F[i]?), q ∈ F := fun q hq => by obtain ⟨i, _, e⟩ := pick_mem hq; exact List.mem_of_getElem? e
  have hs : ∀ q ∈ (is.filterMap fun i => F[i]?) ++ X, q ∈ F ++ X := fun q hq => by
    rcases List.mem_append.1 hq with hq | hq
    · exact List.mem_append_left _ (hm q hq)
    · exact List.mem_append_right _ hq
  refine ⟨h.ext, fun q hq => h.get q (hs q hq), ?_, fun q hq => h.mine q (hs q hq)⟩
  rw [List.map_append, List.nodup_append]
  refine ⟨pick_nodup hn.1 hd, hn.2.1, fun a ha b hb => ?_⟩
  obtain ⟨q, hq, rfl⟩ := List.mem_map.1 ha
  exact hn.2.2 _ (List.mem_map.2 ⟨q, hm q hq, rfl⟩) b hb
end Go.Sy
namespace Go.Sy
open Go Go.Proofs Go.ChangeShapes Go.WideShapes Go.Deep
section
variable {P : Program} {H : Type} {enc : TypeId × Value → H} {W : World} {base : Nat} {spare : Nat → Bool} {held : Bool} {k : IntKind}
/-- Lists of numbers lie in memory, a slice for each. -/
def Flat2At (W : World) (k : IntKind) (sa : Option Addr) (l : List (List Int)) : Prop :=
  ∀ i p, l[i]? = some p → ∃ blk off c T fr sb cb, sa = some ⟨blk, off, none⟩ ∧ W.heap[blk]? = some (.cells c T fr) ∧ c[off + i]? = some (.slice sb p.length cb) ∧ FlatAt W k sb 1 (p.map fun z => [z])
theorem trod_slices2 {t s e : TypeId} {d fuel : Nat} {cs : List Value} {x : DataW H × List MemPlace} (ht : P.underlying t = some (.slice s)) (hs : P.underlying s = some (.slice e)) (hcs : P.cellsOf s = 1) (he : flK P k d e = some 1) (h : DataW.trod enc P W base spare held fuel t cs = some x) :
    ∃ (l : List (List Int)) (sa : Option Addr) (cap : Nat), cs = [.slice sa l.length cap] ∧ l.length ≤ maxLen ∧ (∀ p ∈ l, p.length ≤ maxLen ∧ ∀ a ∈ p, wfI k a) ∧ Flat2At W k sa l := by
  rcases open_slice ht h with ⟨e1, _⟩ | ⟨a, len, cap, m, n', D, Pl, e1, hb, hl, hm, hmm, _, hx⟩
  · exact ⟨[], none, 0, e1, Nat.zero_le _, by simp, fun i p hi => by simp at hi⟩
  · have hlm : len ≤ m := by rw [hmm]; split <;> omega
    have each : ∀ i, i < len → ∃ q : List Int × Option Addr × Nat, (q.1.length ≤ maxLen ∧ ∀ b ∈ q.1, wfI k b) ∧ W.cell? (a.add i) = some (.slice q.2.1 q.1.length q.2.2) ∧ FlatAt W k q.2.1 1 (q.1.map fun z => [z]) := fun i hi => by
      obtain ⟨cs', h1, h2⟩ := hx i (by omega)
      rw [hcs] at h1
      obtain ⟨l, sb, cb, h3, h4, h5, h6⟩ := trod_slices hs he (by omega) h2
      obtain ⟨p, rfl⟩ := flat1 (W := W) (sa := sb) (fun p hp => (h5 p hp).1)
      obtain ⟨_, _, hc⟩ := World.cells?_some h1
      have h7 := hc 0 (by omega)
      rw [h3, add_add, Nat.mul_one, Nat.add_zero] at h7
      refine ⟨(p, sb, cb), ⟨by simpa using h4, fun b hb => (h5 [b] (List.mem_map.2 ⟨b, hb, rfl⟩)).2 b (.head _)⟩, ?_, h6⟩
      rw [h7]; simp
    obtain ⟨F, hF⟩ : ∃ F : Nat → List Int × Option Addr × Nat, ∀ i, i < len → ((F i).1.length ≤ maxLen ∧ ∀ b ∈ (F i).1, wfI k b) ∧ W.cell? (a.add i) = some (.slice (F i).2.1 (F i).1.length (F i).2.2) ∧ FlatAt W k (F i).2.1 1 ((F i).1.map fun z => [z]) :=
      ⟨fun i => if hi : i < len then (each i hi).choose else ([], none, 0), fun i hi => by simp only [hi, dif_pos]; exact (each i hi).choose_spec⟩
    have hget : ∀ i p, ((List.range len).map fun i => (F i).1)[i]? = some p → i < len ∧ (F i).1 = p := fun i p hi => by
      rw [List.getElem?_map] at hi
      have hil : i < len := by
        rcases Nat.lt_or_ge i len with h | h
        · exact h
        · rw [List.getElem?_eq_none (by simpa using h)] at hi; cases hi
      rw [List.getElem?_range hil] at hi
      exact ⟨hil, Option.some.inj hi⟩
    refine ⟨(List.range len).map fun i => (F i).1, some a, cap, by simpa using e1, by simp; omega, fun p hp => ?_, fun i p hi => ?_⟩
    · obtain ⟨i, hi, rfl⟩ := List.mem_map.1 hp
      exact (hF i (List.mem_range.1 hi)).1
    · obtain ⟨hil, rfl⟩ := hget i p hi
      obtain ⟨_, h2, h3⟩ := hF i hil
      obtain ⟨blk, off, spot⟩ := a
      have hsp : spot = none := by
        cases spot with
        | none => rfl
        | some z =>
          have hv := (hF 0 (by omega)).2.1
          exact (add_spot_none (i := 0) hv).elim
      subst hsp
      rw [add_spot] at h2
      unfold World.cell? at h2
      simp only at h2
      cases hbk : W.heap[blk]? with
      | none => rw [hbk] at h2; simp at h2
      | some o =>
        rw [hbk] at h2
        cases o <;> simp at h2
        rename_i c T fr
        exact ⟨blk, off, c, T, fr, (F i).2.1, (F i).2.2, rfl, hbk, h2, h3⟩
end
end Go.Sy
namespace Go.Sy
open Go Go.Proofs
section
variable {P : Program} {L : List (Nat × Value)} {dd : Option Tmp} {ty : TypeId} {pos : String} {af : Array Edge} {gd : Option (Nat × Bool)} {w : World}
theorem yv_ldw {t : TypeId} {x : Operand} {b off : Nat} {c : Array Value} {e : TypeId} {fr : Nat × Nat} {v : Value} (ht : scalB P t = true) (hx : ev L x = some (ptr b off)) (hb : w.heap[b]? = some (.cells c e fr)) (hv : c[off]? = some v) : Yv P (fun z => z = w) L ⟨dd, .load t x, ty, pos, af, gd⟩ v :=
  yv_load (c := c) (e := e) (fr := fr) ht hx (fun z h => by rw [h]; exact hb) hv
variable {r : Option Nat} {all : Array Oper} {Q : Exit → Act → World → Prop} {rest : List Oper} {a : Act} {n d : Nat} {ds : List Deferred} {o : Oper} {v : Value}
theorem o_w (hf : Fr n ds L a) (y : Yv P (fun z => z = w) L o v) (k : ∀ a, Fr n ds ((d, v) :: L) a → OpsW P r all Q rest a w)
    (hg : GOn all L o := by first | exact .inl rfl | exact gon' rfl rfl rfl) (hnd : isDefer o.op = false := by rfl) (hd : o.dst = some d := by rfl) (hn : Nat.blt d n = true := by rfl) : OpsW P r all Q (o :: rest) a w := ops_v hf (C := fun z => z = w) rfl y hg hnd hd hn k
end
end Go.Sy
namespace Go.Sy
open Go Go.Proofs
section
variable {P : Program} {C : World → Prop} {L : List (Nat × Value)} {dd : Option Tmp} {ty : TypeId} {pos : String} {af : Array Edge} {gd : Option (Nat × Bool)}
theorem yv_orI {t t' : TypeId} {x y : Operand} {p q : Nat} (hx : ev L x = some (.int .i64 ((p : Nat) : Int))) (hy : ev L y = some (.int .i64 ((q : Nat) : Int))) (hp : p ≤ 4611686018427387904) (hq : q ≤ 4611686018427387904) : Yv P C L ⟨dd, .binOp .or t x y t', ty, pos, af, gd⟩ (.int .i64 ((p ||| q : Nat) : Int)) :=
  yv_cast (yv_or (.inl rfl) hx hy (Int.natCast_nonneg _) (by simp only [IntKind.top]; omega) (Int.natCast_nonneg _) (by simp only [IntKind.top]; omega)) (intv (by rw [Int.toNat_natCast, Int.toNat_natCast]))
theorem yv_andI {t t' : TypeId} {x y : Operand} {p q : Nat} (hx : ev L x = some (.int .i64 ((p : Nat) : Int))) (hy : ev L y = some (.int .i64 ((q : Nat) : Int))) (hp : p ≤ 4611686018427387904) (hq : q ≤ 4611686018427387904) : Yv P C L ⟨dd, .binOp .and t x y t', ty, pos, af, gd⟩ (.int .i64 ((p &&& q : Nat) : Int)) :=
  yv_cast (yv_and (.inl rfl) hx hy (Int.natCast_nonneg _) (by simp only [IntKind.top]; omega) (Int.natCast_nonneg _) (by simp only [IntKind.top]; omega)) (intv (by rw [Int.toNat_natCast, Int.toNat_natCast]))
theorem yv_andnI {t t' : TypeId} {x y : Operand} {p q : Nat} (hx : ev L x = some (.int .i64 ((p : Nat) : Int))) (hy : ev L y = some (.int .i64 ((q : Nat) : Int))) (hp : p ≤ 4611686018427387904) (hq : q ≤ 4611686018427387904) : Yv P C L ⟨dd, .binOp .andNot t x y t', ty, pos, af, gd⟩ (.int .i64 ((p ^^^ (p &&& q) : Nat) : Int)) :=
  yv_cast (yv_andn (.inl rfl) hx hy (Int.natCast_nonneg _) (by simp only [IntKind.top]; omega) (Int.natCast_nonneg _) (by simp only [IntKind.top]; omega)) (intv (by rw [Int.toNat_natCast, Int.toNat_natCast]; rfl))
theorem yv_shrI {t t' : TypeId} {x y : Operand} {k' : IntKind} {s n : Nat} (hx : ev L x = some (.int .i64 ((s : Nat) : Int))) (hy : ev L y = some (.int k' ((n : Nat) : Int))) (hn : n ≤ 64 := by omega) : Yv P C L ⟨dd, .binOp .shr t x y t', ty, pos, af, gd⟩ (.int .i64 ((s >>> n : Nat) : Int)) :=
  yv_cast (yv_shrx (.inl rfl) hx hy (Int.natCast_nonneg _) (Int.natCast_nonneg _) (by omega)) (intv (by rw [Int.toNat_natCast, Int.toNat_natCast]))
end
end Go.Sy
