/- What a call that leaves all old blocks as they were answers for. (Under way.) -/
import Derived.Test.YtkolcbjghphjeaaDoorB18
import Derived.RowKitTokens
import Derived.WideKeyArgs
namespace Go.Sy
open Go Go.Proofs Go.ChangeShapes Go.WideShapes
theorem Ext.sameAt {W W' : World} (e : Ext [] W W') {p : MemPlace} (hp : p.block < W.heap.size) : W.sameAt W' p := by
  cases p with
  | cell b off => exact World.cell?_of_block (w := W) (w' := W') (a := ⟨b, off, none⟩) (e.block b hp (by simp))
  | map b => exact e.block b hp (by simp)
theorem Ext.kept {W W' : World} (e : Ext [] W W') (may : MemPlace → Prop) : W.keptBut W' may := by
  refine ⟨e.os, e.output, fun i hi => ?_⟩
  rw [e.block i hi (by simp)]
  cases W.heap[i]? with
  | none => trivial
  | some o => cases o <;> simp
section
variable {H : Type} {enc : TypeId × Value → H} {P : Program}
theorem trodAll_stays (hl : laidOutB P = true) {W W' : World} (e : Ext [] W W') {sp' : Nat → Bool} : ∀ (ts : List TypeId) (vs : List Value) (ds : List (DataW H)) (ps : List MemPlace), (∀ t ∈ ts, P.readableRec t = true ∧ t < P.types.size) →
    DataW.TrodAll enc P W 0 (fun _ => true) true ts vs ds ps → (∀ p ∈ ps, p.block < W.heap.size) → (∀ p ∈ ps, sp' p.block = true) → DataW.TrodAll enc P W' 0 sp' true ts vs ds ps
  | [], [], [], _, _, h, _, _ => h
  | t :: ts, v :: vs, d :: ds, ps, ht, ⟨p, q, h1, h2, e1⟩, hlt, hs => by
    subst e1
    exact ⟨p, q, WideElems.Trod_stays hl (ht t (by simp)).1 (ht t (by simp)).2 h1 (fun x hx => e.sameAt (hlt x (by simp [hx]))) (fun x hx => hs x (by simp [hx])),
      trodAll_stays hl e ts vs ds q (fun u hu => ht u (by simp [hu])) h2 (fun x hx => hlt x (by simp [hx])) (fun x hx => hs x (by simp [hx])), rfl⟩
theorem post_ext {f : Func} {s : ChangeSpec} {apart fresh handsOn again : Bool} {W W' : World} {args : Array Value} {v : Value} {ds : List (DataW H)} {before : List MemPlace}
    (hl : laidOutB P = true) (ht : ∀ t ∈ f.params.toList, P.readableRec t = true ∧ t < P.types.size) (hv : s.vars = []) (e : Ext [] W W')
    (hW : DataW.Whole enc P f.params.toList s.vars apart W args.toList ds [] before) (hfa : (s.fn H (ds ++ [])).args = ds) (hfv : (s.fn H (ds ++ [])).vars = [])
    (hres : ∀ (b : Nat) (sp : Nat → Bool) (hd : Bool), DataW.TrodAll enc P W' b sp hd f.resultTypes.toList (v.resultList f.resultTypes.size) (s.fn H (ds ++ [])).results [])
    (hok : ∀ (j : Nat) (t : TypeId) (r : Value), f.resultTypes[j]? = some t → (v.resultList f.resultTypes.size)[j]? = some r → Value.okWide P W' .any 0 t r) :
    s.post enc P f apart fresh handsOn again W args v W' := by
  have hlt : ∀ p ∈ before, p.block < W.heap.size := fun p hp => hW.lt p hp
  have hW0 := hW
  obtain ⟨p, q, hA, hVq, hpq, hz, hn⟩ := hW0
  rw [hv] at hVq
  have hq : q = [] := hVq
  subst hq
  rw [List.append_nil] at hpq
  subst hpq
  have hargs : ∀ sp' : Nat → Bool, (∀ x ∈ before, sp' x.block = true) → DataW.TrodAll enc P W' 0 sp' true f.params.toList args.toList (s.fn H (ds ++ [])).args before := fun sp' hs => by
    rw [hfa]; exact trodAll_stays hl e _ _ _ _ ht hA hlt hs
  have hvars : ∀ sp' : Nat → Bool, DataW.TrodVars enc P W' sp' s.vars (s.fn H (ds ++ [])).vars [] := fun sp' => by rw [hv, hfv]; rfl
  refine ⟨ds, [], before, [], before, [], hW, hres _ _ _, hargs _ (fun x hx => by simpa using hlt x hx), hvars _, e.kept _, fun _ => ⟨hok, _, _, ([] ++ before) ++ [], ⟨[] ++ before, [], trodAll_append (hargs _ (fun _ _ => rfl)) (hres _ _ _), hvars _, rfl, ?_, ?_⟩, ?_⟩⟩
  · intro b off hp
    have hp' : MemPlace.cell b off ∈ before := by simpa using hp
    have := hz b off hp'
    unfold World.frozen? at *
    rw [e.block b (hlt _ hp') (by simp)]
    exact this
  · intro ha
    simpa using hn ha
  · intro x hx _
    simpa using hx
end
end Go.Sy
