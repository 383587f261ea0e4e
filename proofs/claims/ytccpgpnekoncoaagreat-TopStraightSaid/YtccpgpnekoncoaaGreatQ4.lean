/- Lemmas, in order: Charts in memory; what Draw and Idle tell.. -/
import Derived.Test.YtccpgpnekoncoaaGreatQ3
namespace Go.ChaM
open Go Go.Sy
theorem len_of {α : Type} {l : List α} {i : Nat} {s : α} (h : l[i]? = some s) : i < l.length := (List.getElem?_eq_some_iff.1 h).1
theorem ex_of {α : Type} {l : List α} {i : Nat} (h : i < l.length) : ∃ s, l[i]? = some s := ⟨l[i], by simp [h]⟩
abbrev siC (s : SiD) : List Value := [.int .i64 s.fr, .int .i64 s.to, .int .i64 s.el, .int .i64 s.eh, .int .i64 s.nl, .int .i64 s.nh]
abbrev siV (s : SiD) : Value := .agg #[.int .i64 s.fr, .int .i64 s.to, .int .i64 s.el, .int .i64 s.eh, .int .i64 s.nl, .int .i64 s.nh]
/-- Things of some cells each lie in memory. -/
def TAt {α : Type} (n : Nat) (enc : α → List Value) (w : World) (sa : Option Addr) (l : List α) : Prop :=
  ∀ i s, l[i]? = some s → ∃ blk off c T fr, sa = some ⟨blk, off, none⟩ ∧ w.heap[blk]? = some (.cells c T fr) ∧ cellsAt c (off + ((i : Nat) : Int).toNat * n) n = some (enc s)
theorem TAt.ext {α : Type} {n : Nat} {enc : α → List Value} {w w' : World} {sa : Option Addr} {l : List α} (h : TAt n enc w sa l) (e : Ext [] w w') : TAt n enc w' sa l := fun i s hi =>
  let ⟨blk, off, c, T, fr, h1, h2, h3⟩ := h i s hi
  ⟨blk, off, c, T, fr, h1, e.get h2, h3⟩
abbrev chC (c : ChD) (sa : Option Addr) (cp : Nat) : Array Value := #[.int .i64 c.n, .slice sa c.si.length cp]
/-- Any integer of the machine. -/
def I64 (n : Int) : Prop := -9223372036854775808 ≤ n ∧ n ≤ 9223372036854775807
structure SiI (s : SiD) : Prop where
  fr : I64 s.fr
  to : I64 s.to
  el : I64 s.el
  eh : I64 s.eh
  nl : I64 s.nl
  nh : I64 s.nh
structure ChAt (w : World) (c : ChD) (sa : Option Addr) : Prop where
  at_ : TAt 6 siC w sa c.si
  n : I64 c.n
  len : c.si.length ≤ 1000
  s : ∀ s ∈ c.si, SiI s
theorem ChAt.ext {w w' : World} {c : ChD} {sa : Option Addr} (h : ChAt w c sa) (e : Ext [] w w') : ChAt w' c sa := ⟨h.at_.ext e, h.n, h.len, h.s⟩
/-- Draw. -/
def drwG (c : ChD) : Nat → Int
  | 0 => 0
  | k + 1 => if drwG c k = 0 then betE c 0 (k : Int) else drwG c k
def drwE (c : ChD) : Int := if chB c = false then 1 else drwG c c.n.toNat
def drwP (c : ChD) (i : Nat) : Int × Int := ((betV c false 0 (i : Int)).1, (betV c true 0 (i : Int)).1)
def drwL (c : ChD) : List (Int × Int) := if drwE c = 0 then (List.range c.n.toNat).map (drwP c) else []
theorem drwG_zero {c : ChD} : ∀ {k : Nat}, drwG c k = 0 ↔ ∀ i, i < k → betE c 0 (i : Int) = 0
  | 0 => ⟨fun _ i h => absurd h (Nat.not_lt_zero i), fun _ => rfl⟩
  | k + 1 => by
    rw [drwG]
    constructor
    · intro h i hi
      split at h
      · rename_i hz
        rcases Nat.lt_succ_iff_lt_or_eq.1 hi with h1 | h1
        · exact drwG_zero.1 hz i h1
        · subst h1; exact h
      · rename_i hz; exact absurd h hz
    · intro h
      rw [if_pos (drwG_zero.2 fun i hi => h i (Nat.lt_succ_of_lt hi))]
      exact h k (Nat.lt_succ_self k)
theorem drwG_stop {c : ChD} {k : Nat} {e : Int} (h : drwG c k = e) (he : e ≠ 0) : ∀ d, drwG c (k + d) = e
  | 0 => h
  | d + 1 => by
    rw [← Nat.add_assoc, drwG, drwG_stop h he d, if_neg he]
end Go.ChaM

