/- Lemmas, in order: Royalties in memory.. -/
import Derived.Test.YtccpgpnekoncoaaGreatQ3
namespace Go.RoyM
open Go Go.Sy
theorem len_of {α : Type} {l : List α} {i : Nat} {s : α} (h : l[i]? = some s) : i < l.length := (List.getElem?_eq_some_iff.1 h).1
theorem ex_of {α : Type} {l : List α} {i : Nat} (h : i < l.length) : ∃ s, l[i]? = some s := ⟨l[i], by simp [h]⟩
abbrev tmC (t : TermD) : List Value := [.int .i64 t.f, .int .i64 t.u, .int .i64 t.b]
abbrev tmV (t : TermD) : Value := .agg #[.int .i64 t.f, .int .i64 t.u, .int .i64 t.b]
abbrev rpC (x : RepD) : List Value := [.int .i64 x.ag, .int .i64 x.kd, .int .i64 x.fi, .int .i64 x.la]
abbrev rpV (x : RepD) : Value := .agg #[.int .i64 x.ag, .int .i64 x.kd, .int .i64 x.fi, .int .i64 x.la]
/-- Things of some cells each lie in memory. -/
def TAt {α : Type} (n : Nat) (enc : α → List Value) (w : World) (sa : Option Addr) (l : List α) : Prop :=
  ∀ i s, l[i]? = some s → ∃ blk off c T fr, sa = some ⟨blk, off, none⟩ ∧ w.heap[blk]? = some (.cells c T fr) ∧ cellsAt c (off + ((i : Nat) : Int).toNat * n) n = some (enc s)
theorem TAt.ext {α : Type} {n : Nat} {enc : α → List Value} {w w' : World} {sa : Option Addr} {l : List α} (h : TAt n enc w sa l) (e : Ext [] w w') : TAt n enc w' sa l := fun i s hi =>
  let ⟨blk, off, c, T, fr, h1, h2, h3⟩ := h i s hi
  ⟨blk, off, c, T, fr, h1, e.get h2, h3⟩
/-- Numbers lie in memory. -/
def IAt (w : World) (sa : Option Addr) (l : List Int) : Prop :=
  ∀ i x, l[i]? = some x → ∃ blk off c T fr, sa = some ⟨blk, off, none⟩ ∧ w.heap[blk]? = some (.cells c T fr) ∧ c[off + ((i : Nat) : Int).toNat * 1]? = some (.int .i64 x)
theorem IAt.ext {w w' : World} {sa : Option Addr} {l : List Int} (h : IAt w sa l) (e : Ext [] w w') : IAt w' sa l := fun i s hi =>
  let ⟨blk, off, c, T, fr, h1, h2, h3⟩ := h i s hi
  ⟨blk, off, c, T, fr, h1, e.get h2, h3⟩
/-- Lists of numbers lie in memory. -/
def LAt (w : World) (sa : Option Addr) (l : List (List Int)) : Prop :=
  ∀ i x, l[i]? = some x → ∃ blk off c T fr sb cb, sa = some ⟨blk, off, none⟩ ∧ w.heap[blk]? = some (.cells c T fr) ∧ c[off + ((i : Nat) : Int).toNat * 1]? = some (.slice sb x.length cb) ∧ IAt w sb x
theorem LAt.ext {w w' : World} {sa : Option Addr} {l : List (List Int)} (h : LAt w sa l) (e : Ext [] w w') : LAt w' sa l := fun i s hi =>
  let ⟨blk, off, c, T, fr, sb, cb, h1, h2, h3, h4⟩ := h i s hi
  ⟨blk, off, c, T, fr, sb, cb, h1, e.get h2, h3, h4.ext e⟩
/-- Where royalties lie. -/
structure Pl where
  (st sp ss sr sd : Option Addr)
  (ct cp cs cr cd : Nat)
abbrev royC (d : RoyD) (p : Pl) : Array Value := #[.slice p.st d.terms.length p.ct, .slice p.sp d.prices.length p.cp, .slice p.ss d.shares.length p.cs, .slice p.sr d.reps.length p.cr, .slice p.sd d.paid.length p.cd]
structure RoyAt (w : World) (d : RoyD) (p : Pl) : Prop where
  tm : TAt 3 tmC w p.st d.terms
  pr : IAt w p.sp d.prices
  sh : LAt w p.ss d.shares
  rp : TAt 4 rpC w p.sr d.reps
  pd : IAt w p.sd d.paid
  n1 : d.terms.length ≤ 1000
  n2 : d.prices.length ≤ 1000
  n3 : d.shares.length ≤ 1000
  n4 : d.reps.length ≤ 1000
  n5 : d.paid.length ≤ 1000
  n6 : ∀ l ∈ d.shares, l.length ≤ 1000
  cap : d.reps.length ≤ p.cr
theorem RoyAt.ext {w w' : World} {d : RoyD} {p : Pl} (h : RoyAt w d p) (e : Ext [] w w') : RoyAt w' d p :=
  ⟨h.tm.ext e, h.pr.ext e, h.sh.ext e, h.rp.ext e, h.pd.ext e, h.n1, h.n2, h.n3, h.n4, h.n5, h.n6, h.cap⟩
/-- The first that is not valid; -1: none. -/
def fbad {α : Type} (ok : α → Bool) : List α → Nat → Int
  | [], _ => -1
  | m :: l, i => if ok m = true then fbad ok l (i + 1) else i
theorem fbad_all {α : Type} (ok : α → Bool) : ∀ (l : List α) (i : Nat), decide (0 ≤ fbad ok l i) = !l.all ok
  | [], i => by simp [fbad]
  | m :: l, i => by
    cases h : ok m
    · simp [fbad, h]
    · simp [fbad, h, fbad_all ok l (i + 1)]
theorem fbad_drop {α : Type} {ok : α → Bool} {l : List α} {i : Nat} {m : α} (h : l[i]? = some m) : fbad ok (l.drop i) i = if ok m = true then fbad ok (l.drop (i + 1)) (i + 1) else i := by
  rw [List.drop_eq_getElem_cons (len_of h)]
  have : l[i]'(len_of h) = m := (List.getElem?_eq_some_iff.1 h).2
  rw [this]; rfl
/-- The least and the greatest so far. -/
def endC (l : List Int) : Array Value := #[.int .i64 (loL l), .int .i64 (hiL l), .bool (decide (l ≠ []))]
theorem lo_snoc {l : List Int} (x : Int) (h : l ≠ []) : loL (l ++ [x]) = min (loL l) x := by
  cases l with
  | nil => exact absurd rfl h
  | cons y l => rw [List.cons_append, loL, List.foldl_append]; rfl
theorem hi_snoc {l : List Int} (x : Int) (h : l ≠ []) : hiL (l ++ [x]) = max (hiL l) x := by
  cases l with
  | nil => exact absurd rfl h
  | cons y l => rw [List.cons_append, hiL, List.foldl_append]; rfl
theorem getD_at {α : Type} {l : List α} {i : Nat} {x z : α} (h : l[i]? = some x) : l.getD i z = x := by rw [List.getD_eq_getElem?_getD, h]; rfl
theorem sumI_take {l : List Int} {i : Nat} {x : Int} (h : l[i]? = some x) : sumI (l.take (i + 1)) = sumI (l.take i) + x := by
  rw [List.take_add_one, h, sumI_app]
  show _ + (0 + x) = _
  rw [Int.zero_add]
/-- Sums of numbers that are not too great. -/
theorem sum_bd {b : Int} : ∀ {l : List Int}, (∀ x ∈ l, -b ≤ x ∧ x ≤ b) → -(b * l.length) ≤ sumI l ∧ sumI l ≤ b * l.length
  | [], _ => by simp [sumI]
  | x :: l, h => by
    have h1 := h x (.head _)
    have h2 := sum_bd (l := l) fun y hy => h y (.tail _ hy)
    rw [sumI_cons, List.length_cons]
    have e : b * ((l.length + 1 : Nat) : Int) = b * l.length + b := by rw [Int.natCast_add, Int.mul_add]; omega
    omega
theorem take_bd {b : Int} {l : List Int} (h : ∀ x ∈ l, -b ≤ x ∧ x ≤ b) (hb : 0 ≤ b) (i : Nat) (hl : l.length ≤ 1000) : -(b * 1000) ≤ sumI (l.take i) ∧ sumI (l.take i) ≤ b * 1000 := by
  have h1 := sum_bd (l := l.take i) fun x hx => h x (List.mem_of_mem_take hx)
  have h2 : (l.take i).length ≤ 1000 := by rw [List.length_take]; omega
  have h3 : b * ((l.take i).length : Int) ≤ b * 1000 := Int.mul_le_mul_of_nonneg_left (by omega) hb
  omega
theorem sh_take {l : List Int} (h : (l.all fun s => inI s 0 1000) = true ∧ l.length ≤ 1000) (i : Nat) : -4611686018427387904 ≤ sumI (l.take i) ∧ sumI (l.take i) ≤ 4611686018427387904 := by
  have h1 := take_bd (b := 1000) (l := l) (fun x hx => by
    have := List.all_eq_true.1 h.1 x hx
    unfold inI at this
    simp only [Bool.and_eq_true, decide_eq_true_eq] at this
    omega) (by omega) i h.2
  omega
end Go.RoyM

