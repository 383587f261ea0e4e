/- Lemmas, in order: Equality of values that are made of integers alone: structs, arrays, and those inside one another.. -/
import Derived.Test.YtemmhdgaagaglaaDoorQ10
import Derived.ChangeKeysEq
namespace Go.Sy
open Go Go.Proofs
/-- How many cells a type of integers alone has. -/
def flatN (P : Program) : Nat → TypeId → Option Nat
  | 0, _ => none
  | d + 1, t => match P.underlying t with
    | some (.int _) => some 1
    | some (.struct fs) => match fs.toList.foldl (fun acc f => acc.bind fun off => if f.name ≠ "_" ∧ f.offset = off then (flatN P d f.type).map (off + ·) else none) (some 0) with
      | some n => if P.stoodInHeld t = false ∧ aggB P t = some n then some n else none
      | none => none
    | some (.array len e) => match flatN P d e with
      | some k => if P.cellsOf e = k ∧ (P.info? e).isSome ∧ aggB P t = some (len * k) then some (len * k) else none
      | none => none
    | _ => none
def flatF (P : Program) (d : Nat) : List Field → Nat → Option Nat
  | [], off => some off
  | f :: fs, off => if f.name ≠ "_" ∧ f.offset = off then match flatN P d f.type with
      | some k => flatF P d fs (off + k)
      | none => none
    else none
theorem flat_none {P : Program} {d : Nat} : ∀ (fs : List Field), fs.foldl (fun acc f => acc.bind fun off => if f.name ≠ "_" ∧ f.offset = off then (flatN P d f.type).map (off + ·) else none) none = (none : Option Nat)
  | [] => rfl
  | f :: fs => by rw [List.foldl_cons]; exact flat_none fs
theorem flat_fold {P : Program} {d : Nat} : ∀ (fs : List Field) (off : Nat), fs.foldl (fun acc f => acc.bind fun off => if f.name ≠ "_" ∧ f.offset = off then (flatN P d f.type).map (off + ·) else none) (some off) = flatF P d fs off
  | [], off => rfl
  | f :: fs, off => by
    rw [List.foldl_cons, flatF]
    simp only [Option.bind_some]
    split
    · cases h : flatN P d f.type with
      | none => exact flat_none fs
      | some k => exact flat_fold fs (off + k)
    · exact flat_none fs
/-- Integers from a cell on. -/
def IntsIn (X : Array Value) (o : Nat) (p : List Int) : Prop := ∀ j a, p[j]? = some a → X[o + j]? = some (.int .i64 a)
theorem IntsIn.take {X : Array Value} {o n : Nat} {p : List Int} (h : IntsIn X o p) : IntsIn X o (p.take n) := fun j a hj => by
  rw [List.getElem?_take] at hj
  split at hj
  · exact h j a hj
  · cases hj
theorem IntsIn.drop {X : Array Value} {o n : Nat} {p : List Int} (h : IntsIn X o p) : IntsIn X (o + n) (p.drop n) := fun j a hj => by
  rw [List.getElem?_drop] at hj
  rw [Nat.add_assoc]; exact h _ a hj
theorem IntsIn.ext {X : Array Value} {o n : Nat} {p : List Int} (h : IntsIn X o p) (hl : p.length = n) : IntsIn (X.extract o (o + n)) 0 p := fun j a hj => by
  have h1 := h j a hj
  have h2 := (List.getElem?_eq_some_iff.1 hj).1
  have h3 := (Array.getElem?_eq_some_iff.1 h1).1
  rw [Nat.zero_add, Array.getElem?_extract, if_pos (by omega), h1]
theorem dec_split (k : Nat) (p q : List Int) : decide (p = q) = (decide (p.take k = q.take k) && decide (p.drop k = q.drop k)) := by
  rw [Bool.eq_iff_iff]
  simp only [decide_eq_true_eq, Bool.and_eq_true]
  constructor
  · rintro rfl; exact ⟨rfl, rfl⟩
  · rintro ⟨h1, h2⟩; rw [← List.take_append_drop k p, h1, h2, List.take_append_drop]
section
variable {P : Program}
def EqAt (P : Program) (d : Nat) (t : TypeId) (n : Nat) : Prop := ∀ (X Y : Array Value) (o o' : Nat) (p q : List Int) (w : World), p.length = n → q.length = n → IntsIn X o p → IntsIn Y o' q →
  ∃ u v, (part t X o).run P w = .ok u w ∧ (part t Y o').run P w = .ok v w ∧ (Op.equalIn d t u v).run P w = .ok (decide (p = q)) w
theorem run_flatF {d : Nat} (ih : ∀ t n, flatN P d t = some n → EqAt P d t n) : ∀ (fs : List Field) (off m : Nat), flatF P d fs off = some m → ∀ (U V : Array Value) (p q : List Int) (w : World), off + p.length = m → off + q.length = m → IntsIn U off p → IntsIn V off q →
    (Op.eqFields d U V fs).run P w = .ok (decide (p = q)) w
  | [], off, m, h, U, V, p, q, w, hp, hq, _, _ => by
    simp only [flatF, Option.some.injEq] at h
    have h1 : p = [] := List.eq_nil_of_length_eq_zero (by omega)
    have h2 : q = [] := List.eq_nil_of_length_eq_zero (by omega)
    subst h1; subst h2
    simp [Op.eqFields]
  | f :: fs, off, m, h, U, V, p, q, w, hp, hq, hU, hV => by
    rw [flatF] at h
    split at h
    · rename_i hf
      split at h
      · rename_i k hk
        have hle : off + k ≤ m := by
          have key : ∀ (fs : List Field) (a b : Nat), flatF P d fs a = some b → a ≤ b := by
            intro fs
            induction fs with
            | nil => intro a b h; simp only [flatF, Option.some.injEq] at h; omega
            | cons g gs ihg =>
              intro a b h
              rw [flatF] at h
              split at h
              · split at h
                · have := ihg _ _ h; omega
                · cases h
              · cases h
          exact key fs _ _ h
        obtain ⟨u, v, h1, h2, h3⟩ := ih f.type k hk U V off off (p.take k) (q.take k) w (by rw [List.length_take]; omega) (by rw [List.length_take]; omega) hU.take hV.take
        have h4 := run_flatF ih fs (off + k) m h U V (p.drop k) (q.drop k) w (by rw [List.length_drop]; omega) (by rw [List.length_drop]; omega) hU.drop hV.drop
        rw [dec_split k p q]
        simp only [Op.eqFields, hf.1, ne_eq, not_false_eq_true, if_true, Sem.run_bind, hf.2, h1, h2, h3, Result.andThen_ok]
        cases decide (p.take k = q.take k)
        · simp
        · simp [h4]
      · cases h
    · cases h
theorem run_flatI {d k : Nat} {e : TypeId} (ih : EqAt P d e k) : ∀ (n s : Nat) (U V : Array Value) (p q : List Int) (w : World), p.length = n * k → q.length = n * k → IntsIn U (s * k) p → IntsIn V (s * k) q →
    (Op.eqItems d e k U V (List.range' s n)).run P w = .ok (decide (p = q)) w
  | 0, s, U, V, p, q, w, hp, hq, _, _ => by
    have h1 : p = [] := List.eq_nil_of_length_eq_zero (by omega)
    have h2 : q = [] := List.eq_nil_of_length_eq_zero (by omega)
    subst h1; subst h2
    simp [Op.eqItems]
  | n + 1, s, U, V, p, q, w, hp, hq, hU, hV => by
    rw [Nat.succ_mul] at hp hq
    obtain ⟨u, v, h1, h2, h3⟩ := ih U V (s * k) (s * k) (p.take k) (q.take k) w (by rw [List.length_take]; omega) (by rw [List.length_take]; omega) hU.take hV.take
    have h4 := run_flatI ih n (s + 1) U V (p.drop k) (q.drop k) w (by rw [List.length_drop]; omega) (by rw [List.length_drop]; omega) (by rw [Nat.succ_mul]; exact hU.drop) (by rw [Nat.succ_mul]; exact hV.drop)
    rw [dec_split k p q, List.range'_succ]
    simp only [Op.eqItems, Sem.run_bind, h1, h2, h3, Result.andThen_ok]
    cases decide (p.take k = q.take k)
    · simp
    · simp [h4]
theorem flat_eq : ∀ (d : Nat) (t : TypeId) (n : Nat), flatN P d t = some n → EqAt P d t n
  | 0, t, n, h => by simp [flatN] at h
  | d + 1, t, n, h => by
    intro X Y o o' p q w hp hq hX hY
    rw [flatN] at h
    split at h
    · rename_i k hk
      cases h
      have hs : scalB P t = true := by unfold scalB; rw [hk]
      obtain ⟨a, rfl⟩ : ∃ a, p = [a] := by
        match p, hp with
        | [a], _ => exact ⟨a, rfl⟩
      obtain ⟨b, rfl⟩ : ∃ b, q = [b] := by
        match q, hq with
        | [b], _ => exact ⟨b, rfl⟩
      have h1 := hX 0 a rfl
      have h2 := hY 0 b rfl
      rw [Nat.add_zero] at h1 h2
      refine ⟨.int .i64 a, .int .i64 b, by simp [part, run_isAgg_scal hs, h1], by simp [part, run_isAgg_scal hs, h2], ?_⟩
      rw [run_equalIn_int w d t .i64 k a b hk]
      congr 1
      by_cases e : a = b <;> simp [e]
    · rename_i fs hfs
      rw [flat_fold] at h
      split at h
      · rename_i m hm
        split at h
        · rename_i hc
          cases h
          obtain ⟨hs, hag⟩ := hc
          obtain ⟨h3, h4⟩ := run_isAgg_agg (w := w) hag
          have hfo : P.fieldsOf t = fs := by unfold Program.fieldsOf; rw [hfs]
          refine ⟨.agg (X.extract o (o + n)), .agg (Y.extract o' (o' + n)), by simp [part, h3, h4], by simp [part, h3, h4], ?_⟩
          rw [run_equalIn_struct w d t _ _ (by rw [hfo]; exact hfs) hs, hfo]
          exact run_flatF (fun t n => flat_eq d t n) fs.toList 0 n hm _ _ p q w (by omega) (by omega) (hX.ext hp) (hY.ext hq)
        · cases h
      · cases h
    · rename_i len e hu
      split at h
      · rename_i k hk
        split at h
        · rename_i hc
          cases h
          obtain ⟨hck, hinf, hag⟩ := hc
          obtain ⟨i, hi⟩ := Option.isSome_iff_exists.1 hinf
          obtain ⟨h3, h4⟩ := run_isAgg_agg (w := w) hag
          refine ⟨.agg (X.extract o (o + len * k)), .agg (Y.extract o' (o' + len * k)), by simp [part, h3, h4], by simp [part, h3, h4], ?_⟩
          rw [run_equalIn_array w d _ _ hu hi, hck, List.range_eq_range']
          exact run_flatI (flat_eq d e k hk) len 0 _ _ p q w hp hq (by rw [Nat.zero_mul]; exact hX.ext hp) (by rw [Nat.zero_mul]; exact hY.ext hq)
        · cases h
      · cases h
    · cases h
/-- A struct or an array of integers alone. -/
def flatB (P : Program) (t : TypeId) : Option Nat := match flatN P 9 t with
  | some n => if aggB P t = some n ∧ P.eqGuardType P.depth t = false then some n else none
  | none => none
theorem intsIn_map (p : List Int) : IntsIn (p.map (Value.int .i64)).toArray 0 p := fun j a hj => by
  rw [Nat.zero_add]; simp [hj]
theorem depth_mono {d : Nat} : ∀ {t : TypeId} {n : Nat}, flatN P d t = some n → flatN P (d + 1) t = some n := by
  induction d with
  | zero => intro t n h; simp [flatN] at h
  | succ d ih =>
    intro t n h
    have hF : ∀ (fs : List Field) (a b : Nat), flatF P d fs a = some b → flatF P (d + 1) fs a = some b := by
      intro fs
      induction fs with
      | nil => intro a b h; exact h
      | cons f fs ihf =>
        intro a b h
        rw [flatF] at h ⊢
        split at h
        · rename_i hf
          rw [if_pos hf]
          split at h
          · rename_i k hk; rw [ih hk]; exact ihf _ _ h
          · cases h
        · cases h
    rw [flatN] at h ⊢
    split at h
    · exact h
    · rename_i fs hfs
      rw [flat_fold] at h ⊢
      split at h
      · rename_i m hm; rw [hF _ _ _ hm]; exact h
      · cases h
    · rename_i len e hu
      split at h
      · rename_i k hk; rw [ih hk]; exact h
      · cases h
    · cases h
theorem flat_top {t : TypeId} {n : Nat} (h : flatB P t = some n) : ∀ (p q : List Int) (w : World), p.length = n → q.length = n → (Op.equalIn 10000 t (.agg (p.map (Value.int .i64)).toArray) (.agg (q.map (Value.int .i64)).toArray)).run P w = .ok (decide (p = q)) w := by
  intro p q w hp hq
  unfold flatB at h
  split at h
  · rename_i m hm
    split at h
    · rename_i hc
      cases h
      have h2 : ∀ k, flatN P (9 + k) t = some n := by
        intro k
        induction k with
        | zero => exact hm
        | succ k ih => exact depth_mono ih
      obtain ⟨u, v, h3, h4, h5⟩ := flat_eq 10000 t n (h2 9991) _ _ 0 0 p q w hp hq (intsIn_map p) (intsIn_map q)
      obtain ⟨h6, h7⟩ := run_isAgg_agg (w := w) hc.1
      have e : ∀ (p : List Int), p.length = n → (part t (p.map (Value.int .i64)).toArray 0).run P w = .ok (.agg (p.map (Value.int .i64)).toArray) w := fun p hp => by
        have e2 : (p.map (Value.int .i64)).take n = p.map (Value.int .i64) := List.take_of_length_le (by simp [hp])
        simp [part, h6, h7, e2]
      rw [e p hp] at h3
      rw [e q hq] at h4
      cases h3; cases h4
      exact h5
    · cases h
  · cases h
variable {C : World → Prop} {L : List (Nat × Value)} {dd : Option Tmp} {ty : TypeId} {pos : String} {af : Array Edge} {gd : Option (Nat × Bool)}
theorem flat_guard {t : TypeId} {n : Nat} (h : flatB P t = some n) : P.eqGuardType P.depth t = false := by
  unfold flatB at h
  split at h
  · split at h
    · rename_i hc; exact hc.2
    · cases h
  · cases h
theorem yv_eqF {t t' : TypeId} {x y : Operand} {n : Nat} (p q : List Int) (ht : flatB P t = some n) (hx : ev L x = some (.agg (p.map (Value.int .i64)).toArray)) (hy : ev L y = some (.agg (q.map (Value.int .i64)).toArray)) (hp : p.length = n := by rfl) (hq : q.length = n := by rfl) :
    Yv P C L ⟨dd, .binOp .eql t x y t', ty, pos, af, gd⟩ (.bool (decide (p = q))) := fun ρ hρ w _ => by
  have e := run_eqGuard_agg (P := P) w .eql t x y (p.map (Value.int .i64)).toArray (q.map (Value.int .i64)).toArray (flat_guard ht)
  have e2 := run_eql_struct (P := P) w t (p.map (Value.int .i64)).toArray (q.map (Value.int .i64)).toArray
  rw [flat_top ht p q w hp hq] at e2
  simp only [execOp, hρ _ _ hx, hρ _ _ hy, Sem.run_bind, e, e2, Result.andThen_ok]
  rfl
theorem yv_neF {t t' : TypeId} {x y : Operand} {n : Nat} (p q : List Int) (ht : flatB P t = some n) (hx : ev L x = some (.agg (p.map (Value.int .i64)).toArray)) (hy : ev L y = some (.agg (q.map (Value.int .i64)).toArray)) (hp : p.length = n := by rfl) (hq : q.length = n := by rfl) :
    Yv P C L ⟨dd, .binOp .neq t x y t', ty, pos, af, gd⟩ (.bool (!decide (p = q))) := fun ρ hρ w _ => by
  have e := run_eqGuard_agg (P := P) w .neq t x y (p.map (Value.int .i64)).toArray (q.map (Value.int .i64)).toArray (flat_guard ht)
  have e2 := run_neq_struct (P := P) w t (p.map (Value.int .i64)).toArray (q.map (Value.int .i64)).toArray
  rw [flat_top ht p q w hp hq] at e2
  simp only [execOp, hρ _ _ hx, hρ _ _ hy, Sem.run_bind, e, e2, Result.andThen_ok]
  rfl
end
end Go.Sy
