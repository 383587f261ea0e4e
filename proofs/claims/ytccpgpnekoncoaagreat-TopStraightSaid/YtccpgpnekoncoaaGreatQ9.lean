/- Lemmas, in order: The entry that a range over a map is at; a map that is laid out; a step of a range, both ways at once. Blocks picked by their places; a block's contents named; blocks of old that a round does not turn. An array as a whole, as a slice. Maps whose keys are structs or arrays of integers, inside one another. Blocks picked by their places ahead of others that stay. Slices of slices of numbers that a row is handed. Values that hold at this world alone. Bits of numbers with a sign that are not less than nought.. -/
import Derived.Test.YtccpgpnekoncoaaGreatQ8
namespace Go.Sy
open Go Go.Proofs
set_option linter.unusedSectionVars false
variable {P : Program} {κ : Type} [DecidableEq κ] {enc : κ → Value} {ke : TypeId} {v0 : Value}
section
variable {r : Option Nat} {all : Array Oper} {Q : Exit → Act → World → Prop} {rest : List Oper} {a : Act} {w w0 : World} {M : List Nat} {H : List (Nat × Obj)} {L : List (Nat × Value)} {n : Nat} {ds : List Deferred} {d : Nat} {ty : TypeId} {pos : String} {af : Array Edge} {gd : Option (Nat × Bool)}
end
section
variable {C : World → Prop} {L : List (Nat × Value)} {dd : Option Tmp} {ty : TypeId} {pos : String} {af : Array Edge} {gd : Option (Nat × Bool)}
end
end Go.Sy

namespace Go.Sy
open Go Go.Proofs
theorem pick_mem {α : Type} {H : List α} {is : List Nat} {q : α} (h : q ∈ is.filterMap fun i => H[i]?) : ∃ i ∈ is, H[i]? = some q := List.mem_filterMap.1 h
theorem pick_nodup {H : List (Nat × Obj)} (hn : (H.map Prod.fst).Nodup) : ∀ {is : List Nat}, is.Nodup → ((is.filterMap fun i => H[i]?).map Prod.fst).Nodup
  | [], _ => .nil
  | i :: is, hd => by
    rw [List.nodup_cons] at hd
    have ih := pick_nodup hn hd.2
    rw [List.filterMap_cons]
    cases hi : H[i]? with
    | none => exact ih
    | some q =>
      show (q.1 :: _).Nodup
      rw [List.nodup_cons]
      refine ⟨fun h => ?_, ih⟩
      obtain ⟨q', hq', e⟩ := List.mem_map.1 h
      obtain ⟨j, hj, hjq⟩ := pick_mem hq'
      have e1 : (H.map Prod.fst)[i]? = some q.1 := by rw [List.getElem?_map, hi]; rfl
      have e2 : (H.map Prod.fst)[j]? = some q.1 := by rw [List.getElem?_map, hjq, ← e]; rfl
      have hil : i < (H.map Prod.fst).length := (List.getElem?_eq_some_iff.1 e1).1
      have := (List.getElem?_inj hil hn).1 (e1.trans e2.symm)
      exact hd.1 (this ▸ hj)
theorem Hp.pick {w0 w : World} {M : List Nat} {H : List (Nat × Obj)} (h : Hp w0 M H w) (is : List Nat) (hd : is.Nodup := by decide) : Hp w0 M (is.filterMap fun i => H[i]?) w :=
  ⟨h.ext, fun q hq => by obtain ⟨i, _, e⟩ := pick_mem hq; exact h.get q (List.mem_of_getElem? e), pick_nodup h.nodup hd, fun q hq => by obtain ⟨i, _, e⟩ := pick_mem hq; exact h.mine q (List.mem_of_getElem? e)⟩
/-- The contents of a block, by a name. -/
theorem Hp.name {w0 w : World} {M : List Nat} {A B : List (Nat × Obj)} {b : Nat} {o : Obj} (h : Hp w0 M (A ++ (b, o) :: B) w) : ∃ z, z = o ∧ Hp w0 M (A ++ (b, z) :: B) w := ⟨o, rfl, h⟩
/-- What blocks hold that the rounds of a range do not turn. -/
theorem Hp.held {u w : World} {H X : List (Nat × Obj)} {is : List Nat} (h : Hp u [] H w) (hX : X = is.filterMap fun i => H[i]?) (js : List Nat) (hj : ∀ j ∈ js, j ∉ is := by decide) : Held (X.map Prod.fst) w (js.filterMap fun j => H[j]?) := fun q hq => by
  obtain ⟨j, hjs, e⟩ := pick_mem hq
  refine ⟨h.get q (List.mem_of_getElem? e), fun hx => ?_⟩
  rw [hX] at hx
  obtain ⟨q', hq', e'⟩ := List.mem_map.1 hx
  obtain ⟨i, hi, ei⟩ := pick_mem hq'
  have e1 : (H.map Prod.fst)[j]? = some q.1 := by rw [List.getElem?_map, e]; rfl
  have e2 : (H.map Prod.fst)[i]? = some q.1 := by rw [List.getElem?_map, ei, ← e']; rfl
  have hil : j < (H.map Prod.fst).length := (List.getElem?_eq_some_iff.1 e1).1
  have := (List.getElem?_inj hil h.nodup).1 (e1.trans e2.symm)
  exact hj j hjs (this ▸ hi)
theorem Hp.fresh {u w : World} {H : List (Nat × Obj)} (h : Hp u [] H w) : ∀ x ∈ H.map Prod.fst, u.heap.size ≤ x := fun x hx => by
  obtain ⟨q, hq, rfl⟩ := List.mem_map.1 hx
  rcases h.mine q hq with h1 | h1
  · exact h1
  · cases h1
theorem Held.old {u w : World} {H l : List (Nat × Obj)} {b : Nat} {o : Obj} (h : Hp u [] H w) (hb : u.heap[b]? = some o) (hl : Held (H.map Prod.fst) w l) : Held (H.map Prod.fst) w ((b, o) :: l) :=
  Held.cons (h.old hb) (fun hx => by
    have := h.fresh _ hx
    have := (Array.getElem?_eq_some_iff.1 hb).1
    omega) hl
theorem Held.app {N : List Nat} {w : World} {l m : List (Nat × Obj)} (h1 : Held N w l) (h2 : Held N w m) : Held N w (l ++ m) := fun q hq => (List.mem_append.1 hq).elim (h1 q) (h2 q)
end Go.Sy

namespace Go.Sy
open Go Go.Proofs
section
variable {P : Program} {C : World → Prop} {L : List (Nat × Value)} {dd : Option Tmp} {ty : TypeId} {pos : String} {af : Array Edge} {gd : Option (Nat × Bool)}
end
end Go.Sy

namespace Go.Sy
open Go Go.Proofs
section
variable {P : Program}
def ChkAt (P : Program) (d : Nat) (t : TypeId) (n : Nat) : Prop := ∀ (b : Bool) (X : Array Value) (o : Nat) (p : List Int) (w : World), p.length = n → IntsIn X o p →
  ∃ u, (part t X o).run P w = .ok u w ∧ (Instr.checkKey b d t u).run P w = .ok () w
theorem flatF_le {d : Nat} : ∀ (fs : List Field) (a b : Nat), flatF P d fs a = some b → a ≤ b
  | [], a, b, h => by simp only [flatF, Option.some.injEq] at h; omega
  | g :: gs, a, b, h => by
    rw [flatF] at h
    split at h
    · split at h
      · have := flatF_le gs _ _ h; omega
      · cases h
    · cases h
theorem run_chkFs {d : Nat} (ih : ∀ t n, flatN P d t = some n → ChkAt P d t n) (b : Bool) : ∀ (fs : List Field) (off m : Nat), flatF P d fs off = some m → ∀ (U : Array Value) (p : List Int) (w : World), off + p.length = m → IntsIn U off p →
    (forIn fs PUnit.unit (fun f (_ : PUnit) => (do if f.name ≠ "_" then Instr.checkKey b d f.type (← part f.type U f.offset)
                                                   pure (ForInStep.yield PUnit.unit) : Sem (ForInStep PUnit)))).run P w = .ok PUnit.unit w
  | [], off, m, h, U, p, w, hp, hU => by simp
  | f :: fs, off, m, h, U, p, w, hp, hU => by
    rw [flatF] at h
    split at h
    · rename_i hf
      split at h
      · rename_i k hk
        have hle := flatF_le fs _ _ h
        obtain ⟨u, h1, h3⟩ := ih f.type k hk b U off (p.take k) w (by rw [List.length_take]; omega) hU.take
        have h4 := run_chkFs ih b fs (off + k) m h U (p.drop k) w (by rw [List.length_drop]; omega) hU.drop
        rw [List.forIn_cons]
        simp only [hf.1, ne_eq, not_false_eq_true, if_true, Sem.run_bind, hf.2, h1, h3, Result.andThen_ok, Sem.run_pure]
        exact h4
      · cases h
    · cases h
theorem run_chkI {d k : Nat} {e : TypeId} {ti : TypeInfo} (hi : P.info? e = some ti) (hck : P.cellsOf e = k) (ih : ChkAt P d e k) (b : Bool) : ∀ (n s : Nat) (U : Array Value) (p : List Int) (w : World), p.length = n * k → IntsIn U (s * k) p →
    (forIn (List.range' s n) PUnit.unit (fun i (_ : PUnit) => (do Instr.checkKey b d e (← part e U (i * (← sizeOf e))); pure (ForInStep.yield PUnit.unit) : Sem (ForInStep PUnit)))).run P w = .ok PUnit.unit w
  | 0, s, U, p, w, hp, _ => by simp
  | n + 1, s, U, p, w, hp, hU => by
    rw [Nat.succ_mul] at hp
    obtain ⟨u, h1, h3⟩ := ih b U (s * k) (p.take k) w (by rw [List.length_take]; omega) hU.take
    have h4 := run_chkI hi hck ih b n (s + 1) U (p.drop k) w (by rw [List.length_drop]; omega) (by rw [Nat.succ_mul]; exact hU.drop)
    rw [List.range'_succ, List.forIn_cons]
    have hs := run_sizeOf w hi
    rw [hck] at hs
    simp only [Sem.run_bind, hs, h1, h3, Result.andThen_ok, Sem.run_pure]
    exact h4
theorem flat_chk : ∀ (d : Nat) (t : TypeId) (n : Nat), flatN P d t = some n → ChkAt P d t n
  | 0, t, n, h => by simp [flatN] at h
  | d + 1, t, n, h => by
    intro b X o p w hp hX
    rw [flatN] at h
    split at h
    · rename_i k hk
      cases h
      have hs : scalB P t = true := by unfold scalB; rw [hk]
      obtain ⟨a, rfl⟩ : ∃ a, p = [a] := by
        match p, hp with
        | [a], _ => exact ⟨a, rfl⟩
      have h1 := hX 0 a rfl
      rw [Nat.add_zero] at h1
      exact ⟨.int .i64 a, by simp [part, run_isAgg_scal hs, h1], by simp [Instr.checkKey, run_underlying hk]⟩
    · rename_i fs hfs
      rw [flat_fold] at h
      split at h
      · rename_i m hm
        split at h
        · rename_i hc
          cases h
          obtain ⟨hs, hag⟩ := hc
          obtain ⟨h3, h4⟩ := run_isAgg_agg (w := w) hag
          refine ⟨.agg (X.extract o (o + n)), by simp [part, h3, h4], ?_⟩
          unfold Instr.checkKey
          simp only [Sem.run_bind, run_underlying hfs, Result.andThen_ok]
          have h5 := run_chkFs (fun t n => flat_chk d t n) b fs.toList 0 n hm (X.extract o (o + n)) p w (by omega) (hX.ext hp)
          rw [Array.forIn_toList] at h5
          simp only [bind_pure_comp] at h5 ⊢
          first
          | exact h5
          | (simp only [h5, Result.andThen_ok]; rfl)
        · cases h
      · cases h
    · rename_i len e hu
      split at h
      · rename_i k hk
        split at h
        · rename_i hc
          cases h
          obtain ⟨hck, hinf, hag⟩ := hc
          obtain ⟨i, hi⟩ := Option.isSome_iff_exists.1 hinf
          obtain ⟨h3, h4⟩ := run_isAgg_agg (w := w) hag
          refine ⟨.agg (X.extract o (o + len * k)), by simp [part, h3, h4], ?_⟩
          unfold Instr.checkKey
          simp only [Sem.run_bind, run_underlying hu, Result.andThen_ok]
          simp only [Std.Legacy.Range.forIn_eq_forIn_range', Std.Legacy.Range.size, Nat.sub_zero, Nat.add_one_sub_one, Nat.div_one]
          have h5 := run_chkI hi hck (flat_chk d e k hk) b len 0 (X.extract o (o + len * k)) p w hp (by rw [Nat.zero_mul]; exact hX.ext hp)
          simp only [bind_pure_comp] at h5 ⊢
          first
          | exact h5
          | (rw [h5]; rfl)
        · cases h
      · cases h
    · cases h
/-- Keys that are made of integers alone. -/
theorem keyFlat {t : TypeId} {n : Nat} {td : TypeDesc} {κ : Type} [DecidableEq κ] (ints : κ → List Int) (inj : ∀ p q, ints p = ints q → p = q) (hl : ∀ p, (ints p).length = n)
    (hB : flatB P t = some n) (hu : P.underlying t = some td) (hs : ∀ x y, Instr.sameNow td (.agg x) (.agg y) = none) :
    KeyOk P t (fun p => .agg ((ints p).map (Value.int .i64)).toArray) := by
  have hB2 := hB
  unfold flatB at hB2
  refine ⟨fun p q w => ?_, fun b p w => ?_, ⟨_, hu, fun p q => hs _ _⟩, fun p => ?_⟩
  · show (Op.equalIn 10000 t _ _).run P w = _
    rw [flat_top hB _ _ w (hl p) (hl q)]
    congr 1
    by_cases h : p = q
    · subst h; simp
    · rw [decide_eq_false h, decide_eq_false fun h' => h (inj _ _ h')]
  · split at hB2
    · rename_i m hm
      split at hB2
      · rename_i hc
        cases hB2
        have h2 : ∀ k, flatN P (9 + k) t = some n := by
          intro k
          induction k with
          | zero => exact hm
          | succ k ih => exact depth_mono ih
        obtain ⟨u, h3, h4⟩ := flat_chk 10000 t n (h2 9991) b _ 0 (ints p) w (hl p) (intsIn_map _)
        obtain ⟨h6, h7⟩ := run_isAgg_agg (w := w) hc.1
        have e2 : ((ints p).map (Value.int .i64)).take n = (ints p).map (Value.int .i64) := List.take_of_length_le (by simp [hl])
        have e : (part t ((ints p).map (Value.int .i64)).toArray 0).run P w = .ok (.agg ((ints p).map (Value.int .i64)).toArray) w := by simp [part, h6, h7, e2]
        rw [e] at h3
        cases h3
        exact h4
      · cases hB2
    · cases hB2
  · have e : ∀ (m : Nat) (x : Int), Instr.sameBits m (.int .i64 x) (.int .i64 x) = true := fun m x => by cases m <;> simp [Instr.sameBits]
    show Instr.sameBits (9999 + 1) _ _ = true
    simp only [Instr.sameBits, beq_self_eq_true, Bool.true_and, List.all_eq_true]
    intro x hx
    obtain ⟨x1, x2⟩ := x
    rw [List.zip_eq_zipWith, List.mem_iff_getElem?] at hx
    obtain ⟨j, hj⟩ := hx
    rw [List.getElem?_zipWith, List.getElem?_map] at hj
    cases h : (ints p)[j]? with
    | none => rw [h] at hj; simp at hj
    | some v => rw [h] at hj; simp at hj; obtain ⟨rfl, rfl⟩ := hj; exact e _ _
end
end Go.Sy

namespace Go.Sy
open Go Go.Proofs
end Go.Sy

namespace Go.Sy
open Go Go.Proofs Go.ChangeShapes Go.WideShapes Go.Deep
section
variable {P : Program} {H : Type} {enc : TypeId × Value → H} {W : World} {base : Nat} {spare : Nat → Bool} {held : Bool} {k : IntKind}
end
end Go.Sy

namespace Go.Sy
open Go Go.Proofs
section
variable {P : Program} {L : List (Nat × Value)} {dd : Option Tmp} {ty : TypeId} {pos : String} {af : Array Edge} {gd : Option (Nat × Bool)} {w : World}
theorem yv_ldw {t : TypeId} {x : Operand} {b off : Nat} {c : Array Value} {e : TypeId} {fr : Nat × Nat} {v : Value} (ht : scalB P t = true) (hx : ev L x = some (ptr b off)) (hb : w.heap[b]? = some (.cells c e fr)) (hv : c[off]? = some v) : Yv P (fun z => z = w) L ⟨dd, .load t x, ty, pos, af, gd⟩ v :=
  yv_load (c := c) (e := e) (fr := fr) ht hx (fun z h => by rw [h]; exact hb) hv
variable {r : Option Nat} {all : Array Oper} {Q : Exit → Act → World → Prop} {rest : List Oper} {a : Act} {n d : Nat} {ds : List Deferred} {o : Oper} {v : Value}
theorem o_w (hf : Fr n ds L a) (y : Yv P (fun z => z = w) L o v) (k : ∀ a, Fr n ds ((d, v) :: L) a → OpsW P r all Q rest a w)
    (hg : GOn all L o := by first | exact .inl rfl | exact gon' rfl rfl rfl) (hnd : isDefer o.op = false := by rfl) (hd : o.dst = some d := by rfl) (hn : Nat.blt d n = true := by rfl) : OpsW P r all Q (o :: rest) a w := ops_v hf (C := fun z => z = w) rfl y hg hnd hd hn k
end
end Go.Sy

namespace Go.Sy
open Go Go.Proofs
section
variable {P : Program} {C : World → Prop} {L : List (Nat × Value)} {dd : Option Tmp} {ty : TypeId} {pos : String} {af : Array Edge} {gd : Option (Nat × Bool)}
theorem yv_orI {t t' : TypeId} {x y : Operand} {p q : Nat} (hx : ev L x = some (.int .i64 ((p : Nat) : Int))) (hy : ev L y = some (.int .i64 ((q : Nat) : Int))) (hp : p ≤ 4611686018427387904) (hq : q ≤ 4611686018427387904) : Yv P C L ⟨dd, .binOp .or t x y t', ty, pos, af, gd⟩ (.int .i64 ((p ||| q : Nat) : Int)) :=
  yv_cast (yv_or (.inl rfl) hx hy (Int.natCast_nonneg _) (by simp only [IntKind.top]; omega) (Int.natCast_nonneg _) (by simp only [IntKind.top]; omega)) (intv (by rw [Int.toNat_natCast, Int.toNat_natCast]))
end
end Go.Sy

