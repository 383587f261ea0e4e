/- Lemmas, in order: What a row is handed, opened: values of integers alone, slices of them. What a call that leaves all old blocks as they were answers for. Remainders of numbers of any kind; slices that a row is handed, opened. Values behind a slice; a slice of one's own grows by them. The engine: slices cut at their lower end.. -/
import Derived.Test.YtidieepndphodaaGreatQ6
import Derived.Deep.Slices
import Derived.Deep.Strs
import Derived.ChangeSame
import Derived.ChangeVars
import Derived.RowKitTokens
import Derived.WideKeyArgs
import Derived.WideShapes
namespace Go.Sy
open Go Go.Proofs Go.Deep Go.ChangeShapes
/-- How many cells a type of integers of one kind alone has. -/
def flK (P : Program) (k : IntKind) : Nat → TypeId → Option Nat
  | 0, _ => none
  | d + 1, t => match P.underlying t with
    | some (.int k') => if k' = k ∧ P.cellsOf t = 1 then some 1 else none
    | some (.struct fs) => match fs.toList.foldl (fun acc f => acc.bind fun off => if f.offset = off then (flK P k d f.type).map (off + ·) else none) (some 0) with
      | some n => if P.cellsOf t = n then some n else none
      | none => none
    | _ => none
def flKF (P : Program) (k : IntKind) (d : Nat) : List Field → Nat → Option Nat
  | [], off => some off
  | f :: fs, off => if f.offset = off then match flK P k d f.type with
      | some m => flKF P k d fs (off + m)
      | none => none
    else none
section
variable {P : Program} {k : IntKind} {d : Nat}
theorem flK_none : ∀ (fs : List Field), fs.foldl (fun acc f => acc.bind fun off => if f.offset = off then (flK P k d f.type).map (off + ·) else none) none = (none : Option Nat)
  | [] => rfl
  | f :: fs => by rw [List.foldl_cons]; exact flK_none fs
theorem flK_fold : ∀ (fs : List Field) (off : Nat), fs.foldl (fun acc f => acc.bind fun off => if f.offset = off then (flK P k d f.type).map (off + ·) else none) (some off) = flKF P k d fs off
  | [], off => rfl
  | f :: fs, off => by
    rw [List.foldl_cons, flKF]
    simp only [Option.bind_some]
    split
    · cases h : flK P k d f.type with
      | none => exact flK_none fs
      | some m => exact flK_fold fs (off + m)
    · exact flK_none fs
theorem flK_cells : ∀ {d : Nat} {t : TypeId} {n : Nat}, flK P k d t = some n → P.cellsOf t = n
  | 0, t, n, h => by simp [flK] at h
  | d + 1, t, n, h => by
    rw [flK] at h
    split at h
    · split at h
      · rename_i hc; cases h; exact hc.2
      · cases h
    · split at h
      · split at h
        · rename_i hc; cases h; exact hc
        · cases h
      · cases h
    · cases h
def wfI (k : IntKind) (a : Int) : Prop := (Lit.int k a).wf = true
variable {H : Type} {enc : TypeId × Value → H} {W : World} {base : Nat} {spare : Nat → Bool} {held : Bool}
theorem trod_flF {d : Nat} (ih : ∀ {t : TypeId} {n fuel : Nat} {cs : List Value} {x : DataW H × List MemPlace}, flK P k d t = some n → DataW.trod enc P W base spare held fuel t cs = some x → ∃ p : List Int, p.length = n ∧ cs = p.map (Value.int k) ∧ ∀ a ∈ p, wfI k a) {cs : List Value} {m : Nat} :
    ∀ (fs : List Field) (off e : Nat), flKF P k d fs off = some e → (∀ f ∈ fs, ∃ y, DataW.trod enc P W base spare held m f.type ((cs.drop f.offset).take (P.cellsOf f.type)) = some y) →
    ∃ p : List Int, off + p.length = e ∧ (cs.drop off).take p.length = p.map (Value.int k) ∧ ∀ a ∈ p, wfI k a
  | [], off, e, h, _ => by
    simp only [flKF, Option.some.injEq] at h
    exact ⟨[], by simp [h], by simp, by simp⟩
  | f :: fs, off, e, h, hf => by
    rw [flKF] at h
    split at h
    · rename_i ho
      split at h
      · rename_i n hn
        obtain ⟨y, hy⟩ := hf f (.head _)
        obtain ⟨p, h1, h2, h3⟩ := ih hn hy
        rw [ho, flK_cells hn] at h2
        obtain ⟨q, h4, h5, h6⟩ := trod_flF ih fs (off + n) e h (fun g hg => hf g (.tail _ hg))
        refine ⟨p ++ q, by rw [List.length_append]; omega, ?_, fun a ha => ?_⟩
        · rw [List.length_append, h1, List.map_append, ← h2, ← h5, ← List.drop_drop, List.take_add]
        · rcases List.mem_append.1 ha with ha | ha
          · exact h3 a ha
          · exact h6 a ha
      · cases h
    · cases h
theorem trod_fl : ∀ {d : Nat} {t : TypeId} {n fuel : Nat} {cs : List Value} {x : DataW H × List MemPlace}, flK P k d t = some n → DataW.trod enc P W base spare held fuel t cs = some x → ∃ p : List Int, p.length = n ∧ cs = p.map (Value.int k) ∧ ∀ a ∈ p, wfI k a
  | 0, t, n, fuel, cs, x, h, _ => by simp [flK] at h
  | d + 1, t, n, fuel, cs, x, h, hx => by
    rw [flK] at h
    split at h
    · rename_i k' hk
      split at h
      · rename_i hc
        cases h
        obtain ⟨rfl, _⟩ := hc
        obtain ⟨a, rfl, _, hw⟩ := DataW.trod_int hk hx
        exact ⟨[a], rfl, rfl, fun b hb => by rw [List.mem_singleton] at hb; subst hb; exact hw⟩
      · cases h
    · rename_i fs hfs
      rw [flK_fold] at h
      split at h
      · rename_i m hm
        split at h
        · rename_i hc
          cases h
          obtain ⟨xs, n', _, _, hl, hxl, hf⟩ := DataW.trod_struct hfs hx
          obtain ⟨p, h1, h2, h3⟩ := trod_flF (cs := cs) (m := n') (fun h1 h2 => trod_fl h1 h2) fs.toList 0 n hm fun f hf' => by
            obtain ⟨i, hi, e⟩ := List.getElem_of_mem hf'
            have e2 : fs[i]? = some f := by rw [← Array.getElem?_toList, List.getElem?_eq_getElem hi, e]
            have hil : i < xs.length := by rw [hxl]; exact (Array.getElem?_eq_some_iff.1 e2).1
            exact ⟨xs[i], by rw [hf i f e2, List.getElem?_eq_getElem hil]⟩
          rw [Nat.zero_add] at h1
          refine ⟨p, h1, ?_, h3⟩
          rw [h1, List.drop_zero, List.take_of_length_le (by rw [hl, hc]; exact Nat.le_refl _)] at h2
          exact h2
        · cases h
      · cases h
    · cases h
/-- Rows of integers lie in memory, one after the other. -/
def FlatAt (W : World) (k : IntKind) (sa : Option Addr) (n : Nat) (l : List (List Int)) : Prop :=
  ∀ i p, l[i]? = some p → ∃ blk off c T fr, sa = some ⟨blk, off, none⟩ ∧ W.heap[blk]? = some (.cells c T fr) ∧ cellsAt c (off + i * n) n = some (p.map (Value.int k))
theorem FlatAt.ext {w w' : World} {sa : Option Addr} {n : Nat} {l : List (List Int)} (h : FlatAt w k sa n l) (e : Ext [] w w') : FlatAt w' k sa n l := fun i p hi =>
  let ⟨blk, off, c, T, fr, h1, h2, h3⟩ := h i p hi
  ⟨blk, off, c, T, fr, h1, e.get h2, h3⟩
theorem cellsAt_of {c : Array Value} : ∀ (vs : List Value) (off : Nat), (∀ j v, vs[j]? = some v → c[off + j]? = some v) → cellsAt c off vs.length = some vs
  | [], _, _ => rfl
  | v :: vs, off, h => by
    have h0 := h 0 v rfl
    have ih := cellsAt_of vs (off + 1) fun j u hj => by rw [Nat.add_assoc, Nat.add_comm 1 j]; exact h (j + 1) u (by simpa using hj)
    rw [List.length_cons]
    unfold cellsAt
    rw [show off + 0 = off from rfl] at h0
    rw [h0, ih]
theorem spot_none {W : World} {a : Addr} {v : Value} (h : W.cell? a = some v) : a.spot = none := by
  obtain ⟨blk, off, spot⟩ := a
  cases spot with
  | none => rfl
  | some z => unfold World.cell? at h; split at h <;> simp at h
theorem add_spot_none {blk off z i : Nat} {W : World} {v : Value} (h : W.cell? ((⟨blk, off, some z⟩ : Addr).add 0) = some v) : False := by
  have := spot_none h
  rw [show (⟨blk, off, some z⟩ : Addr).add 0 = ⟨blk, off, some z⟩ from rfl] at this
  cases this
theorem trod_slices {t e : TypeId} {d n fuel : Nat} {cs : List Value} {x : DataW H × List MemPlace} (ht : P.underlying t = some (.slice e)) (he : flK P k d e = some n) (hn : 0 < n) (h : DataW.trod enc P W base spare held fuel t cs = some x) :
    ∃ (l : List (List Int)) (sa : Option Addr) (cap : Nat), cs = [.slice sa l.length cap] ∧ l.length ≤ maxLen ∧ (∀ p ∈ l, p.length = n ∧ ∀ a ∈ p, wfI k a) ∧ FlatAt W k sa n l := by
  rcases open_slice ht h with ⟨e1, _⟩ | ⟨a, len, cap, m, n', D, Pl, e1, hb, hl, hm, hmm, _, hx⟩
  · exact ⟨[], none, 0, e1, Nat.zero_le _, by simp, fun i p hi => by simp at hi⟩
  · have hlm : len ≤ m := by rw [hmm]; split <;> omega
    have hce := flK_cells he
    have each : ∀ i, i < len → ∃ p : List Int, (p.length = n ∧ ∀ b ∈ p, wfI k b) ∧ ∀ j, j < n → W.cell? (a.add (i * n + j)) = (p.map (Value.int k))[j]? := fun i hi => by
      obtain ⟨cs', h1, h2⟩ := hx i (by omega)
      rw [hce] at h1
      obtain ⟨p, h3, h4, h5⟩ := trod_fl he h2
      obtain ⟨_, _, hc⟩ := World.cells?_some h1
      refine ⟨p, ⟨h3, h5⟩, fun j hj => ?_⟩
      rw [← h4, ← hc j hj, add_add]
    obtain ⟨F, hF⟩ : ∃ F : Nat → List Int, ∀ i, i < len → ((F i).length = n ∧ ∀ b ∈ F i, wfI k b) ∧ ∀ j, j < n → W.cell? (a.add (i * n + j)) = ((F i).map (Value.int k))[j]? :=
      ⟨fun i => if hi : i < len then (each i hi).choose else [], fun i hi => by simp only [hi, dif_pos]; exact (each i hi).choose_spec⟩
    have hget : ∀ i p, ((List.range len).map F)[i]? = some p → i < len ∧ F i = p := fun i p hi => by
      rw [List.getElem?_map] at hi
      have hil : i < len := by
        rcases Nat.lt_or_ge i len with h | h
        · exact h
        · rw [List.getElem?_eq_none (by simpa using h)] at hi; cases hi
      rw [List.getElem?_range hil] at hi
      exact ⟨hil, Option.some.inj hi⟩
    refine ⟨(List.range len).map F, some a, cap, by simpa using e1, by simp; omega, fun p hp => ?_, fun i p hi => ?_⟩
    · obtain ⟨i, hi, rfl⟩ := List.mem_map.1 hp
      exact (hF i (List.mem_range.1 hi)).1
    · obtain ⟨hil, rfl⟩ := hget i p hi
      obtain ⟨⟨h1, _⟩, h2⟩ := hF i hil
      obtain ⟨blk, off, spot⟩ := a
      have hv : ∀ i, i < len → ∀ j, j < n → ∃ v, W.cell? ((⟨blk, off, spot⟩ : Addr).add (i * n + j)) = some v := fun i hi j hj => by
        obtain ⟨⟨h1, _⟩, h2⟩ := hF i hi
        rw [h2 j hj]
        exact ⟨_, List.getElem?_eq_getElem (by simp; omega)⟩
      have hsp : spot = none := by
        cases spot with
        | none => rfl
        | some z =>
          obtain ⟨v, hv⟩ := hv 0 (by omega) 0 hn
          rw [Nat.zero_mul] at hv
          exact (add_spot_none (i := 0) hv).elim
      subst hsp
      obtain ⟨v0, hv0⟩ := hv i hil 0 hn
      rw [add_spot] at hv0
      unfold World.cell? at hv0
      simp only at hv0
      cases hbk : W.heap[blk]? with
      | none => rw [hbk] at hv0; simp at hv0
      | some o =>
        rw [hbk] at hv0
        cases o <;> simp at hv0
        rename_i c T fr
        refine ⟨blk, off, c, T, fr, rfl, hbk, ?_⟩
        have hlen : ((F i).map (Value.int k)).length = n := by simp [h1]
        rw [← hlen]
        refine cellsAt_of _ _ fun j v hj => ?_
        have hjn : j < n := by rw [← hlen]; exact (List.getElem?_eq_some_iff.1 hj).1
        have h3 := h2 j hjn
        rw [hj, add_spot] at h3
        unfold World.cell? at h3
        simp only [hbk] at h3
        rw [hlen, Nat.add_assoc]; exact h3
/-- The fields of a struct, each alone. -/
theorem trod_field {t : TypeId} {fs : Array Field} {fuel : Nat} {cs : List Value} {x : DataW H × List MemPlace} (ht : P.underlying t = some (.struct fs)) (h : DataW.trod enc P W base spare held fuel t cs = some x) :
    cs.length = P.cellsOf t ∧ ∀ (i o : Nat) (u : TypeId) (c : Nat), (fs.map (fun f => (f.offset, f.type)))[i]? = some (o, u) → P.cellsOf u = c → ∃ n y, DataW.trod enc P W base spare held n u ((cs.drop o).take c) = some y := by
  obtain ⟨xs, n, _, _, hl, hxl, hf⟩ := DataW.trod_struct ht h
  refine ⟨hl, fun i o u c hi hc => ?_⟩
  rw [Array.getElem?_map] at hi
  cases hfi : fs[i]? with
  | none => rw [hfi] at hi; cases hi
  | some f =>
    rw [hfi] at hi
    simp only [Option.map_some, Option.some.injEq, Prod.mk.injEq] at hi
    obtain ⟨rfl, rfl⟩ := hi
    have hil : i < xs.length := by rw [hxl]; exact (Array.getElem?_eq_some_iff.1 hfi).1
    subst hc
    exact ⟨n, xs[i], by rw [hf i f hfi, List.getElem?_eq_getElem hil]⟩
theorem wf64 {a : Int} (h : wfI .i64 a) : -9223372036854775808 ≤ a ∧ a ≤ 9223372036854775807 := by
  unfold wfI at h
  simp only [Lit.wf, Bool.and_eq_true, decide_eq_true_eq] at h
  have h8 : IntKind.i64.min = -9223372036854775808 := by decide
  have h9 : IntKind.i64.max = 9223372036854775807 := by decide
  rw [h8, h9] at h; exact h
theorem wf16 {a : Int} (h : wfI .u16 a) : 0 ≤ a ∧ a ≤ 65535 := by
  unfold wfI at h
  simp only [Lit.wf, Bool.and_eq_true, decide_eq_true_eq] at h
  have h8 : IntKind.u16.min = 0 := by decide
  have h9 : IntKind.u16.max = 65535 := by decide
  rw [h8, h9] at h; exact h
theorem wf8 {a : Int} (h : wfI .u8 a) : 0 ≤ a ∧ a ≤ 255 := by
  unfold wfI at h
  simp only [Lit.wf, Bool.and_eq_true, decide_eq_true_eq] at h
  have h8 : IntKind.u8.min = 0 := by decide
  have h9 : IntKind.u8.max = 255 := by decide
  rw [h8, h9] at h; exact h
theorem flat1 {W : World} {sa : Option Addr} {l : List (List Int)} (hl : ∀ p ∈ l, p.length = 1) : ∃ m : List Int, l = m.map fun a => [a] := by
  refine ⟨l.map fun p => p.headD 0, ?_⟩
  rw [List.map_map]
  conv => lhs; rw [← List.map_id l]
  refine List.map_congr_left fun p hp => ?_
  match p, hl p hp with
  | [a], _ => rfl
end
end Go.Sy
namespace Go.Sy
open Go Go.Proofs Go.ChangeShapes Go.WideShapes
theorem Ext.sameAt {W W' : World} (e : Ext [] W W') {p : MemPlace} (hp : p.block < W.heap.size) : W.sameAt W' p := by
  cases p with
  | cell b off => exact World.cell?_of_block (w := W) (w' := W') (a := ⟨b, off, none⟩) (e.block b hp (by simp))
  | map b => exact e.block b hp (by simp)
theorem Ext.kept {W W' : World} (e : Ext [] W W') (may : MemPlace → Prop) : W.keptBut W' may := by
  refine ⟨e.os, e.output, fun i hi => ?_⟩
  rw [e.block i hi (by simp)]
  cases W.heap[i]? with
  | none => trivial
  | some o => cases o <;> simp
section
variable {H : Type} {enc : TypeId × Value → H} {P : Program}
theorem trodAll_stays (hl : laidOutB P = true) {W W' : World} (e : Ext [] W W') {sp' : Nat → Bool} : ∀ (ts : List TypeId) (vs : List Value) (ds : List (DataW H)) (ps : List MemPlace), (∀ t ∈ ts, P.readableRec t = true ∧ t < P.types.size) →
    DataW.TrodAll enc P W 0 (fun _ => true) true ts vs ds ps → (∀ p ∈ ps, p.block < W.heap.size) → (∀ p ∈ ps, sp' p.block = true) → DataW.TrodAll enc P W' 0 sp' true ts vs ds ps
  | [], [], [], _, _, h, _, _ => h
  | t :: ts, v :: vs, d :: ds, ps, ht, ⟨p, q, h1, h2, e1⟩, hlt, hs => by
    subst e1
    exact ⟨p, q, WideElems.Trod_stays hl (ht t (by simp)).1 (ht t (by simp)).2 h1 (fun x hx => e.sameAt (hlt x (by simp [hx]))) (fun x hx => hs x (by simp [hx])),
      trodAll_stays hl e ts vs ds q (fun u hu => ht u (by simp [hu])) h2 (fun x hx => hlt x (by simp [hx])) (fun x hx => hs x (by simp [hx])), rfl⟩
theorem post_ext {f : Func} {s : ChangeSpec} {apart fresh handsOn again : Bool} {W W' : World} {args : Array Value} {v : Value} {ds : List (DataW H)} {before : List MemPlace}
    (hl : laidOutB P = true) (ht : ∀ t ∈ f.params.toList, P.readableRec t = true ∧ t < P.types.size) (hv : s.vars = []) (e : Ext [] W W')
    (hW : DataW.Whole enc P f.params.toList s.vars apart W args.toList ds [] before) (hfa : (s.fn H (ds ++ [])).args = ds) (hfv : (s.fn H (ds ++ [])).vars = [])
    (hres : ∀ (b : Nat) (sp : Nat → Bool) (hd : Bool), DataW.TrodAll enc P W' b sp hd f.resultTypes.toList (v.resultList f.resultTypes.size) (s.fn H (ds ++ [])).results [])
    (hok : ∀ (j : Nat) (t : TypeId) (r : Value), f.resultTypes[j]? = some t → (v.resultList f.resultTypes.size)[j]? = some r → Value.okWide P W' .any 0 t r) :
    s.post enc P f apart fresh handsOn again W args v W' := by
  have hlt : ∀ p ∈ before, p.block < W.heap.size := fun p hp => hW.lt p hp
  have hW0 := hW
  obtain ⟨p, q, hA, hVq, hpq, hz, hn⟩ := hW0
  rw [hv] at hVq
  have hq : q = [] := hVq
  subst hq
  rw [List.append_nil] at hpq
  subst hpq
  have hargs : ∀ sp' : Nat → Bool, (∀ x ∈ before, sp' x.block = true) → DataW.TrodAll enc P W' 0 sp' true f.params.toList args.toList (s.fn H (ds ++ [])).args before := fun sp' hs => by
    rw [hfa]; exact trodAll_stays hl e _ _ _ _ ht hA hlt hs
  have hvars : ∀ sp' : Nat → Bool, DataW.TrodVars enc P W' sp' s.vars (s.fn H (ds ++ [])).vars [] := fun sp' => by rw [hv, hfv]; rfl
  refine ⟨ds, [], before, [], before, [], hW, hres _ _ _, hargs _ (fun x hx => by simpa using hlt x hx), hvars _, e.kept _, fun _ => ⟨hok, _, _, ([] ++ before) ++ [], ⟨[] ++ before, [], trodAll_append (hargs _ (fun _ _ => rfl)) (hres _ _ _), hvars _, rfl, ?_, ?_⟩, ?_⟩⟩
  · intro b off hp
    have hp' : MemPlace.cell b off ∈ before := by simpa using hp
    have := hz b off hp'
    unfold World.frozen? at *
    rw [e.block b (hlt _ hp') (by simp)]
    exact this
  · intro ha
    simpa using hn ha
  · intro x hx _
    simpa using hx
end
end Go.Sy
namespace Go.Sy
open Go Go.Proofs
section
variable {P : Program} {C : World → Prop} {L : List (Nat × Value)} {dd : Option Tmp} {ty : TypeId} {pos : String} {af : Array Edge} {gd : Option (Nat × Bool)}
theorem yv_remk {t t' : TypeId} {x y : Operand} {k : IntKind} {p q : Int} (hx : ev L x = some (.int k p)) (hy : ev L y = some (.int k q)) (h0 : 0 ≤ p) (hq : 1 ≤ q) :
    Yv P C L ⟨dd, .binOp .rem t x y t', ty, pos, af, gd⟩ (.int k (p % q)) := fun ρ hρ w _ => by
  have h3 : p.tmod q = p % q := Int.tmod_eq_emod_of_nonneg h0
  have h6 : q ≠ 0 := by omega
  simp [execOp, hρ _ _ hx, hρ _ _ hy, run_eqGuard_int, binOp, Op.intDiv, h6, h3]
theorem yv_shrN {t t' : TypeId} {x y : Operand} {s n : Nat} (hx : ev L x = some (.int .i64 ((s : Nat) : Int))) (hy : ev L y = some (.int .i64 ((n : Nat) : Int))) (hn : n ≤ 64 := by omega) : Yv P C L ⟨dd, .binOp .shr t x y t', ty, pos, af, gd⟩ (.int .i64 ((s >>> n : Nat) : Int)) :=
  yv_cast (yv_shrx (.inl rfl) hx hy (Int.natCast_nonneg _) (Int.natCast_nonneg _) (by omega)) (intv (by rw [Int.toNat_natCast, Int.toNat_natCast]))
theorem yv_bit0 {t t' : TypeId} {x y : Operand} {s n : Nat} (hx : ev L x = some (.int .i64 (((s >>> n) &&& 1 : Nat) : Int))) (hy : ev L y = some (.int .i64 0)) : Yv P C L ⟨dd, .binOp .eql t x y t', ty, pos, af, gd⟩ (.bool (!s.testBit n)) :=
  yv_cast (yv_bin hx hy rfl) (congrArg Value.bool (by
    cases h : s.testBit n
    · exact decide_eq_true (Int.ofNat_eq_zero.2 (bit1_ne.2 h))
    · exact decide_eq_false fun e => by rw [bit1_ne.1 (Int.ofNat_eq_zero.1 e)] at h; cases h))
theorem yv_bit1 {t t' : TypeId} {x y : Operand} {s n : Nat} (hx : ev L x = some (.int .i64 (((s >>> n) &&& 1 : Nat) : Int))) (hy : ev L y = some (.int .i64 1)) : Yv P C L ⟨dd, .binOp .eql t x y t', ty, pos, af, gd⟩ (.bool (s.testBit n)) :=
  yv_cast (yv_bin hx hy rfl) (congrArg Value.bool (by
    cases h : s.testBit n
    · exact decide_eq_false fun e => by
        have := bit1_eq.1 (show (s >>> n) &&& 1 = 1 by omega)
        rw [this] at h; cases h
    · exact decide_eq_true (by rw [bit1_eq.2 h]; rfl)))
end
section
open Go.ChangeShapes Go.WideShapes Go.Deep
variable {P : Program} {H : Type} {enc : TypeId × Value → H} {W : World} {base : Nat} {spare : Nat → Bool} {held : Bool}
theorem openSl {t e : TypeId} {d n : Nat} {k : IntKind} {r : Reach} {b0 : Nat} {v : Value} {dd : DataW H} {p : List MemPlace} (ht : P.underlying t = some (.slice e)) (he : flK P k d e = some n) (hn : 0 < n) (hv : Value.okWide P W r b0 t v) (h : DataW.Trod enc P W base spare held t v dd p) :
    ∃ (l : List (List Int)) (sa : Option Addr) (cap : Nat), v = .slice sa l.length cap ∧ l.length ≤ maxLen ∧ (∀ p ∈ l, p.length = n ∧ ∀ a ∈ p, wfI k a) ∧ FlatAt W k sa n l := by
  obtain ⟨a, len, cap, rfl⟩ := okWide_slice ht hv
  obtain ⟨fuel, h⟩ := h
  obtain ⟨l, sa, cp, e1, h2, h3, h4⟩ := trod_slices ht he hn h
  have e2 : [Value.slice a len cap] = [Value.slice sa l.length cp] := e1
  exact ⟨l, sa, cp, List.head_eq_of_cons_eq e2, h2, h3, h4⟩
/-- A slice of integers of one kind. -/
theorem openSl1 {t e : TypeId} {d : Nat} {k : IntKind} {r : Reach} {b0 : Nat} {v : Value} {dd : DataW H} {p : List MemPlace} (ht : P.underlying t = some (.slice e)) (he : flK P k d e = some 1) (hv : Value.okWide P W r b0 t v) (h : DataW.Trod enc P W base spare held t v dd p) :
    ∃ (m : List Int) (sa : Option Addr) (cap : Nat), v = .slice sa m.length cap ∧ m.length ≤ 9223372036854775807 ∧ (∀ a ∈ m, wfI k a) ∧ FlatAt W k sa 1 (m.map fun z => [z]) := by
  obtain ⟨l, sa, cap, h1, h2, h3, h4⟩ := openSl ht he (by omega) hv h
  obtain ⟨m, rfl⟩ := flat1 (W := W) (sa := sa) (fun p hp => (h3 p hp).1)
  refine ⟨m, sa, cap, by simpa using h1, by simp only [List.length_map, maxLen] at h2; omega, fun a ha => (h3 [a] (List.mem_map.2 ⟨a, ha, rfl⟩)).2 a (.head _), h4⟩
end
end Go.Sy
namespace Go.Sy
open Go Go.Proofs Go.RowKit
/-- Cells behind a slice. -/
def ValsIn (w : World) (sa : Option Addr) (vs : List Value) : Prop := vs = [] ∨ ∃ blk off c T fr, sa = some ⟨blk, off, none⟩ ∧ w.heap[blk]? = some (.cells c T fr) ∧ ∀ j v, vs[j]? = some v → c[off + j]? = some v
section
variable {P : Program} {r : Option Nat} {all : Array Oper} {Q : Exit → Act → World → Prop} {rest : List Oper} {a : Act} {w w0 : World} {M : List Nat} {H : List (Nat × Obj)} {n : Nat} {ds : List Deferred} {L : List (Nat × Value)} {v : Value} {d : Nat}
  {ty : TypeId} {pos : String} {af : Array Edge} {gd : Option (Nat × Bool)}
theorem ops_appendV {t : TypeId} {e size bytes : Nat} {z : Value} {x y : Operand} {m q : Nat} {xs news : List Value} {X Z : List (Nat × Obj)} {sa : Option Addr} {cq : Nat} (hf : Fr n ds L a) (hh : Hp w0 M (X ++ Z) w)
    (ht : elemB P t = some (e, size, bytes, z)) (hx : ev L x = some v) (hy : ev L y = some (.slice sa q cq)) (ho : OwnSl e size v m xs X) (hM : ValsIn w sa news) (hl : news.length = q * size) (hs : 0 < size) (h1 : news.all (·.oneCell') = true)
    (h63 : m + q ≤ maxLen) (hby : (m + q) * bytes ≤ 140737488355328) (hg : GOn all L ⟨some d, .call ⟨.builtin .append, #[x, y], #[t, t]⟩, ty, pos, af, gd⟩) (hn : Nat.blt d n = true)
    (k : ∀ (v' : Value) (X' : List (Nat × Obj)) (a : Act) (w : World), OwnSl e size v' (m + q) (xs ++ news) X' → Fr n ds ((d, v') :: L) a → Hp w0 M (X' ++ Z) w → OpsW P r all Q rest a w) :
    OpsW P r all Q (⟨some d, .call ⟨.builtin .append, #[x, y], #[t, t]⟩, ty, pos, af, gd⟩ :: rest) a w := by
  rcases hM with h0 | ⟨blk, off, c, T, fr, h1', h2, h3⟩
  · subst h0
    have hq : q = 0 := by
      rw [List.length_nil] at hl
      rcases Nat.eq_zero_or_pos q with h | h
      · exact h
      · have := Nat.mul_pos h hs; omega
    subst hq
    exact ops_append0 hf hh ht hx hy ho hg hn fun a w hf hh => k v X a w (by simpa using ho) hf hh
  · subst h1'
    refine ops_appendS hf hh ht hx hy ho (fun j u hj => ?_) hl h1 h63 hby hg hn k
    rw [add_spot]
    simp [World.cell?, h2, h3 j u hj]
end
end Go.Sy
namespace Go.Sy
open Go Go.Proofs Go.RowKit
section
variable {P : Program} {C : World → Prop} {L : List (Nat × Value)} {dd : Option Tmp} {ty : TypeId} {pos : String} {af : Array Edge} {gd : Option (Nat × Bool)}
/-- A slice cut at its lower end, where something of it is left. -/
theorem yv_cutLo {t e : TypeId} {sz : Nat} {x l : Operand} {a : Addr} {n c m : Nat} (ht : sliceElem P t = some (e, sz)) (hx : ev L x = some (.slice (some a) n c)) (hl : ev L l = some (.int .i64 (m : Nat))) (hm : m ≤ n) (hc : m < c) :
    Yv P C L ⟨dd, .slice t x (some l) none none, ty, pos, af, gd⟩ (.slice (some (a.add (m * sz))) (n - m) (c - m)) := fun ρ hρ w _ => by
  unfold sliceElem at ht
  split at ht
  · rename_i e' he
    cases hin : P.info? e' with
    | none => rw [hin] at ht; simp at ht
    | some inf =>
      have hs : inf.size = sz := by rw [hin] at ht; simp at ht; exact ht.2
      have hb : (0 : Int) ≤ (m : Int) ∧ (m : Int) ≤ (n : Int) := ⟨Int.natCast_nonneg _, by omega⟩
      have hcm : ¬ c = m := by omega
      simp [execOp, hρ _ _ hx, hρ _ _ hl, Instr.sliceAt, Instr.slice, run_underlying he, Instr.sliceBounds, Instr.sliceBound, asIntOf, hb, hcm, hm, sizeOf, typeInfo, hin, hs]
  · simp at ht
/-- A slice cut at its lower end, with nothing behind it. -/
theorem yv_cutLoE {t e : TypeId} {sz : Nat} {x l : Operand} {a : Option Addr} {n c m : Nat} (ht : sliceElem P t = some (e, sz)) (hx : ev L x = some (.slice a n c)) (hl : ev L l = some (.int .i64 (m : Nat))) (hm : m ≤ n) (hc : m = c) :
    Yv P C L ⟨dd, .slice t x (some l) none none, ty, pos, af, gd⟩ (.slice a (n - m) (c - m)) := fun ρ hρ w _ => by
  unfold sliceElem at ht
  split at ht
  · rename_i e' he
    cases hin : P.info? e' with
    | none => rw [hin] at ht; simp at ht
    | some inf =>
      have hb : (0 : Int) ≤ (m : Int) ∧ (m : Int) ≤ (n : Int) := ⟨Int.natCast_nonneg _, by omega⟩
      have hcm : c = m := hc.symm
      simp [execOp, hρ _ _ hx, hρ _ _ hl, Instr.sliceAt, Instr.slice, run_underlying he, Instr.sliceBounds, Instr.sliceBound, asIntOf, hb, hcm, hm, sizeOf, typeInfo, hin]
  · simp at ht
/-- A slice cut at its lower end, in any case. -/
theorem yv_lo {t e : TypeId} {sz : Nat} {x l : Operand} {a : Option Addr} {n c m : Nat} (ht : sliceElem P t = some (e, sz)) (hx : ev L x = some (.slice a n c)) (hl : ev L l = some (.int .i64 (m : Nat))) (hm : m ≤ n) :
    Yv P C L ⟨dd, .slice t x (some l) none none, ty, pos, af, gd⟩ (.slice (if c = m then a else a.map (·.add (m * sz))) (n - m) (c - m)) := fun ρ hρ w _ => by
  unfold sliceElem at ht
  split at ht
  · rename_i e' he
    cases hin : P.info? e' with
    | none => rw [hin] at ht; simp at ht
    | some inf =>
      have hs : inf.size = sz := by rw [hin] at ht; simp at ht; exact ht.2
      have hb : (0 : Int) ≤ (m : Int) ∧ (m : Int) ≤ (n : Int) := ⟨Int.natCast_nonneg _, by omega⟩
      simp [execOp, hρ _ _ hx, hρ _ _ hl, Instr.sliceAt, Instr.slice, run_underlying he, Instr.sliceBounds, Instr.sliceBound, asIntOf, hb, hm, sizeOf, typeInfo, hin, hs]
  · simp at ht
end
end Go.Sy
