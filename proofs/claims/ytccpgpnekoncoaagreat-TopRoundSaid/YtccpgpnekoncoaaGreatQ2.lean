/- Lemmas, in order: Plain laws: parts in a row for the pence that are left; sharing. Plain laws: commissions. Plain laws: royalties; the cards that are claimed. Plain laws: cards that are sold, and who claims them; counts that can be. How many bits are set: the library's way of counting, on numbers below 65536; the lowest bit. Plain laws: what the exported functions tell; the document's examples.. -/
import Derived.Test.YtccpgpnekoncoaaGreatQ1
import Derived.KernelRfl
namespace Go.RoyM
open Go Go.Sy
/-- Parts in their order: the greater remainder first, then the lesser number. -/
def befP (f : Nat → Int) (x y : Nat) : Prop := f y < f x ∨ (f x = f y ∧ x < y)
def insL (f : Nat → Int) (l : List Nat) (x : Nat) : List Nat := l.filter (fun y => decide (f x ≤ f y)) ++ x :: l.filter (fun y => decide (f y < f x))
def srtL (f : Nat → Int) : Nat → List Nat
  | 0 => []
  | n + 1 => insL f (srtL f n) n
theorem filter_split {α : Type} (p q : α → Bool) (h : ∀ x, q x = !p x) (l : List α) : (l.filter p ++ l.filter q).Perm l := by
  have e : q = fun x => !p x := funext h
  subst e
  exact List.filter_append_perm p l
theorem srtL_perm (f : Nat → Int) : ∀ n, (srtL f n).Perm (List.range n)
  | 0 => .refl _
  | n + 1 => by
    rw [srtL, insL, List.range_succ]
    refine (List.perm_middle).trans ?_
    refine (List.Perm.cons n ((filter_split _ _ (fun y => ?_) _).trans (srtL_perm f n))).trans ?_
    · rw [← decide_not, decide_eq_decide]; omega
    · exact (List.perm_append_comm (l₁ := [n]) (l₂ := List.range n))
theorem srtL_lt (f : Nat → Int) {n x : Nat} (h : x ∈ srtL f n) : x < n := List.mem_range.1 ((srtL_perm f n).mem_iff.1 h)
theorem srtL_len (f : Nat → Int) (n : Nat) : (srtL f n).length = n := by rw [(srtL_perm f n).length_eq, List.length_range]
theorem srtL_sorted (f : Nat → Int) : ∀ n, (srtL f n).Pairwise (befP f)
  | 0 => .nil
  | n + 1 => by
    have ih := srtL_sorted f n
    rw [srtL, insL, List.pairwise_append, List.pairwise_cons]
    refine ⟨ih.sublist List.filter_sublist, ⟨fun y hy => ?_, ih.sublist List.filter_sublist⟩, fun x hx y hy => ?_⟩
    · have h1 := of_decide_eq_true (List.mem_filter.1 hy).2
      exact .inl h1
    · have h1 := of_decide_eq_true (List.mem_filter.1 hx).2
      have h0 := srtL_lt f (List.mem_filter.1 hx).1
      rcases List.mem_cons.1 hy with hy | hy
      · subst hy
        by_cases h2 : f y < f x
        · exact .inl h2
        · exact .inr ⟨by omega, h0⟩
      · have h2 := of_decide_eq_true (List.mem_filter.1 hy).2
        exact .inl (by omega)
theorem srtL_nodup (f : Nat → Int) (n : Nat) : (srtL f n).Nodup := (srtL_perm f n).nodup_iff.2 List.nodup_range
/-- Where an element is put: what stands ahead of it is no less, what stands behind it is. -/
theorem insL_at {f : Nat → Int} {x : Nat} {A B : List Nat} (hA : ∀ y ∈ A, f x ≤ f y) (hB : ∀ y ∈ B, f y < f x) : insL f (A ++ B) x = A ++ x :: B := by
  unfold insL
  rw [List.filter_append, List.filter_append]
  have a1 : A.filter (fun y => decide (f x ≤ f y)) = A := List.filter_eq_self.2 fun y hy => decide_eq_true (hA y hy)
  have a2 : A.filter (fun y => decide (f y < f x)) = [] := List.filter_eq_nil_iff.2 fun y hy => by have := hA y hy; simp; omega
  have b1 : B.filter (fun y => decide (f x ≤ f y)) = [] := List.filter_eq_nil_iff.2 fun y hy => by have := hB y hy; simp; omega
  have b2 : B.filter (fun y => decide (f y < f x)) = B := List.filter_eq_self.2 fun y hy => decide_eq_true (hB y hy)
  rw [a1, a2, b1, b2, List.append_nil, List.nil_append]
/-- What a part has of the whole, rounded down, and what is left over of it. -/
def flo (n : Int) (s : Int) : Int := n * s / 1000
def rmd (n : Int) (s : Int) : Int := n * s % 1000
def floors (n : Int) (l : List Int) : List Int := l.map (flo n)
def sumI (l : List Int) : Int := l.foldl (· + ·) 0
def remF (n : Int) (l : List Int) (i : Nat) : Int := rmd n (l.getD i 0)
def leftN (n : Int) (l : List Int) : Nat := (n - sumI (floors n l)).toNat
/-- Whether a part has a penny of those that are left. -/
def moreN (n : Int) (l : List Int) (i : Nat) : Int := if i ∈ (srtL (remF n l) l.length).take (leftN n l) then 1 else 0
def splitL (n : Int) (l : List Int) : List Int := (List.range l.length).map fun i => flo n (l.getD i 0) + moreN n l i
structure ShOk (l : List Int) : Prop where
  n1 : 1 ≤ l.length
  n2 : l.length ≤ 5
  bd : ∀ s ∈ l, 0 ≤ s ∧ s ≤ 1000
  sum : sumI l = 1000
theorem sumI_fold : ∀ (l : List Int) (z : Int), l.foldl (· + ·) z = z + sumI l
  | [], z => by simp [sumI]
  | x :: l, z => by
    have h1 := sumI_fold l (z + x)
    have h2 : sumI (x :: l) = l.foldl (· + ·) (0 + x) := rfl
    have h3 := sumI_fold l (0 + x)
    rw [List.foldl_cons, h1, h2, h3]; omega
theorem sumI_cons (x : Int) (l : List Int) : sumI (x :: l) = x + sumI l := by
  have h2 : sumI (x :: l) = l.foldl (· + ·) (0 + x) := rfl
  rw [h2, sumI_fold]; omega
theorem sumI_nil : sumI [] = 0 := rfl
theorem sumI_app (l m : List Int) : sumI (l ++ m) = sumI l + sumI m := by rw [sumI, List.foldl_append, sumI_fold]; rfl
theorem sum_parts (n : Int) : ∀ l : List Int, 1000 * sumI (floors n l) + sumI (l.map (rmd n)) = n * sumI l
  | [] => by simp [floors, sumI]
  | x :: l => by
    have ih := sum_parts n l
    have h := Int.mul_ediv_add_emod (n * x) 1000
    rw [floors, List.map_cons, List.map_cons, sumI_cons, sumI_cons, sumI_cons]
    have e4 : n * (x + sumI l) = n * x + n * sumI l := Int.mul_add _ _ _
    have e1 : flo n x = n * x / 1000 := rfl
    have e2 : rmd n x = n * x % 1000 := rfl
    have e3 : sumI (l.map (flo n)) = sumI (floors n l) := rfl
    rw [e1, e2, e3, e4]; omega
theorem sum_rmd (n : Int) : ∀ l : List Int, 0 ≤ sumI (l.map (rmd n)) ∧ sumI (l.map (rmd n)) ≤ 999 * (l.length : Int)
  | [] => by simp [sumI]
  | x :: l => by
    have ih := sum_rmd n l
    have h1 := Int.emod_nonneg (n * x) (show (1000 : Int) ≠ 0 by omega)
    have h2 := Int.emod_lt_of_pos (n * x) (show (0 : Int) < 1000 by omega)
    rw [List.map_cons, sumI_cons, List.length_cons]
    show 0 ≤ n * x % 1000 + _ ∧ n * x % 1000 + _ ≤ _
    omega
theorem left_bd {n : Int} {l : List Int} (h : ShOk l) : 0 ≤ n - sumI (floors n l) ∧ n - sumI (floors n l) < l.length := by
  have h1 := sum_parts n l
  have h2 := sum_rmd n l
  have h3 := h.n1
  rw [h.sum] at h1
  omega
theorem sum_map_add {α : Type} (f g : α → Int) : ∀ l : List α, sumI (l.map fun x => f x + g x) = sumI (l.map f) + sumI (l.map g)
  | [] => rfl
  | x :: l => by rw [List.map_cons, List.map_cons, List.map_cons, sumI_cons, sumI_cons, sumI_cons, sum_map_add f g l]; omega
theorem sum_ind {l : List Nat} : ∀ {m : List Nat}, m.Nodup → sumI (m.map fun i => if i ∈ l then (1 : Int) else 0) = ((m.filter fun i => decide (i ∈ l)).length : Int)
  | [], _ => rfl
  | x :: m, h => by
    have ih := sum_ind (l := l) (List.nodup_cons.1 h).2
    rw [List.map_cons, sumI_cons, ih, List.filter_cons]
    by_cases hx : x ∈ l
    · rw [if_pos hx, if_pos (decide_eq_true hx), List.length_cons]; omega
    · rw [if_neg hx, if_neg (by simpa using hx)]; omega
theorem floors_get (n : Int) (l : List Int) : (List.range l.length).map (fun i => flo n (l.getD i 0)) = floors n l := by
  apply List.ext_getElem
  · simp [floors]
  · intro i h1 h2
    simp only [List.length_map, List.length_range] at h1
    simp [floors, h1]
/-- All parts together are what was shared. -/
theorem split_sum {n : Int} {l : List Int} (h : ShOk l) : sumI (splitL n l) = n := by
  have hb := left_bd (n := n) h
  unfold splitL
  rw [sum_map_add, floors_get]
  have e : sumI ((List.range l.length).map (moreN n l)) = (leftN n l : Int) := by
    show sumI ((List.range l.length).map fun i => if i ∈ (srtL (remF n l) l.length).take (leftN n l) then (1 : Int) else 0) = _
    rw [sum_ind List.nodup_range]
    have hp : ((List.range l.length).filter fun i => decide (i ∈ (srtL (remF n l) l.length).take (leftN n l))).Perm ((srtL (remF n l) l.length).filter fun i => decide (i ∈ (srtL (remF n l) l.length).take (leftN n l))) := ((srtL_perm (remF n l) l.length).filter _).symm
    rw [hp.length_eq]
    have hnd := srtL_nodup (remF n l) l.length
    have hl := srtL_len (remF n l) l.length
    obtain ⟨S, hS⟩ : ∃ S, S = srtL (remF n l) l.length := ⟨_, rfl⟩
    rw [← hS] at hnd hl ⊢
    have hk : leftN n l ≤ S.length := by unfold leftN; omega
    have e2 : S.filter (fun i => decide (i ∈ S.take (leftN n l))) = S.take (leftN n l) := by
      conv => lhs; rw [← List.take_append_drop (leftN n l) S]
      rw [List.filter_append]
      have hd := hnd
      rw [← List.take_append_drop (leftN n l) S, List.nodup_append] at hd
      have f1 : (S.take (leftN n l)).filter (fun i => decide (i ∈ (S.take (leftN n l) ++ S.drop (leftN n l)).take (leftN n l))) = S.take (leftN n l) := List.filter_eq_self.2 fun x hx => by rw [List.take_append_drop]; exact decide_eq_true hx
      have f2 : (S.drop (leftN n l)).filter (fun i => decide (i ∈ (S.take (leftN n l) ++ S.drop (leftN n l)).take (leftN n l))) = [] := List.filter_eq_nil_iff.2 fun x hx => by
        rw [List.take_append_drop]
        simp only [decide_eq_true_eq]
        exact fun h9 => hd.2.2 x h9 x hx rfl
      rw [f1, f2, List.append_nil]
    rw [e2, List.length_take]
    omega
  rw [e]
  unfold leftN
  omega
end Go.RoyM

namespace Go.RoyM
open Go Go.Sy
/-- Terms: the commission for the first cards, how many these are, that for all others. -/
structure TermD where
  (f u b : Int)
def termB (t : TermD) : Bool := (decide (0 ≤ t.f) && decide (t.f ≤ 100)) && (decide (0 ≤ t.b) && decide (t.b ≤ 100)) && (decide (0 ≤ t.u) && decide (t.u ≤ 12))
structure TermOk (t : TermD) : Prop where
  f0 : 0 ≤ t.f
  f1 : t.f ≤ 100
  b0 : 0 ≤ t.b
  b1 : t.b ≤ 100
  u0 : 0 ≤ t.u
  u1 : t.u ≤ 12
theorem termB_iff {t : TermD} : termB t = true ↔ TermOk t := by
  unfold termB
  simp only [Bool.and_eq_true, decide_eq_true_eq]
  exact ⟨fun ⟨⟨⟨h1, h2⟩, h3, h4⟩, h5, h6⟩ => ⟨h1, h2, h3, h4, h5, h6⟩, fun h => ⟨⟨⟨h.f0, h.f1⟩, h.b0, h.b1⟩, h.u0, h.u1⟩⟩
/-- Percents of all cards together. -/
def perN (t : TermD) (many : Int) : Int := min many t.u * t.f + (many - min many t.u) * t.b
def comV (t : TermD) (price many : Int) : Int := perN t many * price / 100
def comB (t : TermD) (price many : Int) : Bool := termB t && (decide (0 ≤ price) && decide (price ≤ 1048576)) && (decide (0 ≤ many) && decide (many ≤ 12))
section
variable {t : TermD} {price many : Int}
theorem perN_bd (ht : TermOk t) (h0 : 0 ≤ many) : 0 ≤ perN t many ∧ perN t many ≤ 100 * many := by
  have h1 := ht.f0; have h2 := ht.f1; have h3 := ht.b0; have h4 := ht.b1; have h5 := ht.u0
  obtain ⟨m, hm⟩ : ∃ m, m = min many t.u := ⟨_, rfl⟩
  have hm0 : 0 ≤ m := by omega
  have hm1 : 0 ≤ many - m := by omega
  unfold perN
  rw [← hm]
  have a1 : 0 ≤ m * t.f := Int.mul_nonneg hm0 h1
  have a2 : 0 ≤ (many - m) * t.b := Int.mul_nonneg hm1 h3
  have a3 : m * t.f ≤ m * 100 := Int.mul_le_mul_of_nonneg_left h2 hm0
  have a4 : (many - m) * t.b ≤ (many - m) * 100 := Int.mul_le_mul_of_nonneg_left h4 hm1
  omega
/-- A card more: its part of the price. -/
theorem perN_step (hm : 1 ≤ many) (h0 : 0 ≤ t.u) : perN t many = perN t (many - 1) + if many ≤ t.u then t.f else t.b := by
  unfold perN
  by_cases h : many ≤ t.u
  · rw [if_pos h, show min many t.u = many by omega, show min (many - 1) t.u = many - 1 by omega, Int.sub_self, Int.sub_self, Int.zero_mul]
    have h9 : (many - 1) * t.f = many * t.f - t.f := by rw [Int.sub_mul]; omega
    omega
  · rw [if_neg h, show min many t.u = t.u by omega, show min (many - 1) t.u = t.u by omega]
    have : (many - t.u) * t.b = (many - 1 - t.u) * t.b + t.b := by
      rw [show many - t.u = (many - 1 - t.u) + 1 by omega, Int.add_mul]; omega
    omega
theorem comV_bd (ht : TermOk t) (h0 : 0 ≤ many) (hp : 0 ≤ price) : 0 ≤ comV t price many ∧ comV t price many ≤ many * price := by
  obtain ⟨h1, h2⟩ := perN_bd ht h0
  have a1 : 0 ≤ perN t many * price := Int.mul_nonneg h1 hp
  have a2 : perN t many * price ≤ 100 * many * price := Int.mul_le_mul_of_nonneg_right h2 hp
  rw [Int.mul_assoc] at a2
  unfold comV
  omega
end
end Go.RoyM

namespace Go.RoyM
open Go Go.Sy
structure RepD where
  (ag kd fi la : Int)
structure RoyD where
  (terms : List TermD)
  (prices : List Int)
  (shares : List (List Int))
  (reps : List RepD)
  (paid : List Int)
def inI (n l h : Int) : Bool := decide (l ≤ n) && decide (n ≤ h)
def shB (l : List Int) : Bool := inI (l.length : Int) 1 5 && (l.all (fun s => inI s 0 1000) && decide (sumI l = 1000))
theorem shB_iff {l : List Int} : shB l = true ↔ ShOk l := by
  unfold shB inI
  simp only [Bool.and_eq_true, decide_eq_true_eq, List.all_eq_true]
  exact ⟨fun ⟨⟨h1, h2⟩, h3, h4⟩ => ⟨by omega, by omega, h3, h4⟩, fun h => ⟨⟨by have := h.n1; omega, by have := h.n2; omega⟩, h.bd, h.sum⟩⟩
def repB (d : RoyD) (x : RepD) : Bool := inI x.ag 0 ((d.terms.length : Int) - 1) && (inI x.kd 0 ((d.prices.length : Int) - 1) && (inI x.fi 0 x.la && decide (x.la < 12)))
def royB (d : RoyD) : Bool :=
  (decide (d.terms.length ≤ 4) && (decide (d.prices.length ≤ 4) && (decide (d.shares.length = d.prices.length) && (decide (d.reps.length ≤ 20) && decide (d.paid.length = d.terms.length))))) &&
  ((d.terms.all termB && (d.paid.all (fun n => inI n 0 1099511627776) && d.prices.all (fun n => inI n 0 1048576))) && (d.shares.all shB && d.reps.all (repB d)))
structure RepOk (d : RoyD) (x : RepD) : Prop where
  a0 : 0 ≤ x.ag
  a1 : x.ag < d.terms.length
  k0 : 0 ≤ x.kd
  k1 : x.kd < d.prices.length
  f0 : 0 ≤ x.fi
  f1 : x.fi ≤ x.la
  l1 : x.la < 12
structure RoyOk (d : RoyD) : Prop where
  nt : d.terms.length ≤ 4
  np : d.prices.length ≤ 4
  ns : d.shares.length = d.prices.length
  nr : d.reps.length ≤ 20
  npd : d.paid.length = d.terms.length
  t : ∀ t ∈ d.terms, TermOk t
  pd : ∀ n ∈ d.paid, 0 ≤ n ∧ n ≤ 1099511627776
  p : ∀ n ∈ d.prices, 0 ≤ n ∧ n ≤ 1048576
  s : ∀ l ∈ d.shares, ShOk l
  r : ∀ x ∈ d.reps, RepOk d x
theorem repB_iff {d : RoyD} {x : RepD} : repB d x = true ↔ RepOk d x := by
  unfold repB inI
  simp only [Bool.and_eq_true, decide_eq_true_eq]
  exact ⟨fun ⟨⟨h1, h2⟩, ⟨h3, h4⟩, ⟨h5, h6⟩, h7⟩ => ⟨h1, by omega, h3, by omega, h5, h6, h7⟩, fun h => ⟨⟨h.a0, by have := h.a1; omega⟩, ⟨h.k0, by have := h.k1; omega⟩, ⟨h.f0, h.f1⟩, h.l1⟩⟩
theorem royB_iff {d : RoyD} : royB d = true ↔ RoyOk d := by
  unfold royB
  simp only [Bool.and_eq_true, decide_eq_true_eq, List.all_eq_true, inI]
  constructor
  · rintro ⟨⟨h1, h2, h3, h4, h5⟩, ⟨h6, h7, h8⟩, h9, h10⟩
    exact ⟨h1, h2, h3, h4, h5, fun t ht => termB_iff.1 (h6 t ht), h7, h8, fun l hl => shB_iff.1 (h9 l hl), fun x hx => repB_iff.1 (h10 x hx)⟩
  · intro h
    exact ⟨⟨h.nt, h.np, h.ns, h.nr, h.npd⟩, ⟨fun t ht => termB_iff.2 (h.t t ht), h.pd, h.p⟩, fun l hl => shB_iff.2 (h.s l hl), fun x hx => repB_iff.2 (h.r x hx)⟩
/-- The cards of a report, by bits. -/
def crd (x : RepD) : Nat := 2 ^ (x.la + 1).toNat - 2 ^ x.fi.toNat
theorem crd_bit {d : RoyD} {x : RepD} (h : RepOk d x) (c : Nat) : (crd x).testBit c = (decide (x.fi ≤ c) && decide ((c : Int) ≤ x.la)) := by
  obtain ⟨f, hf⟩ : ∃ f : Nat, x.fi = f := ⟨x.fi.toNat, by have := h.f0; omega⟩
  obtain ⟨l, hl⟩ : ∃ l : Nat, x.la = l := ⟨x.la.toNat, by have := h.f0; have := h.f1; omega⟩
  have h1 := h.f1
  have h2 := h.l1
  unfold crd
  rw [hf, hl, show ((l : Int) + 1).toNat = l + 1 by omega, Int.toNat_natCast]
  have hb : l < 12 := by omega
  have hc : f ≤ l := by omega
  have key : ∀ f : Fin 12, ∀ l : Fin 12, f.1 ≤ l.1 → ∀ c : Fin 13, (2 ^ (l.1 + 1) - 2 ^ f.1).testBit c.1 = (decide (f.1 ≤ c.1) && decide (c.1 ≤ l.1)) := by decide +kernel
  by_cases h3 : c < 13
  · have := key ⟨f, by omega⟩ ⟨l, hb⟩ hc ⟨c, h3⟩
    simp only at this
    rw [this]
    rw [show decide ((f : Int) ≤ (c : Int)) = decide (f ≤ c) from decide_eq_decide.2 (by omega), show decide ((c : Int) ≤ (l : Int)) = decide (c ≤ l) from decide_eq_decide.2 (by omega)]
  · have h4 : 2 ^ (l + 1) ≤ 2 ^ c := Nat.pow_le_pow_right (by omega) (by omega)
    have h5 : 0 < 2 ^ f := Nat.two_pow_pos f
    have h6 : 0 < 2 ^ (l + 1) := Nat.two_pow_pos _
    rw [Nat.testBit_lt_two_pow (by omega), decide_eq_false (p := (c : Int) ≤ (l : Int)) (by omega), Bool.and_false]
/-- The cards of a kind that an agent claims. -/
def clm (d : RoyD) (k : Int) (g : Nat) : Nat := (d.reps.filter fun x => decide (x.kd = k) && decide (x.ag = (g : Int))).foldl (fun s x => s ||| crd x) 0
theorem or_bit (k : Nat) : ∀ (l : List RepD) (s : Nat), (l.foldl (fun s x => s ||| crd x) s).testBit k = (s.testBit k || l.any fun x => (crd x).testBit k)
  | [], s => by simp
  | x :: l, s => by rw [List.foldl_cons, or_bit k l]; simp [Nat.testBit_or, Bool.or_assoc]
/-- Whether an agent claims a card. -/
def clmB (d : RoyD) (k : Int) (g c : Nat) : Bool := d.reps.any fun x => (decide (x.kd = k) && decide (x.ag = (g : Int))) && (decide (x.fi ≤ c) && decide ((c : Int) ≤ x.la))
theorem clm_bit {d : RoyD} (h : RoyOk d) (k : Int) (g c : Nat) : (clm d k g).testBit c = clmB d k g c := by
  unfold clm clmB
  rw [or_bit, Nat.zero_testBit, Bool.false_or, List.any_filter]
  rw [Bool.eq_iff_iff, List.any_eq_true, List.any_eq_true]
  constructor
  · rintro ⟨x, hx, h1⟩
    rw [Bool.and_eq_true, crd_bit (h.r x hx)] at h1
    exact ⟨x, hx, by rw [h1.1, h1.2]; rfl⟩
  · rintro ⟨x, hx, h1⟩
    rw [Bool.and_eq_true] at h1
    exact ⟨x, hx, by rw [h1.1, crd_bit (h.r x hx), h1.2]; rfl⟩
end Go.RoyM

namespace Go.RoyM
open Go Go.Sy
/-- Who claims a card, by bits. -/
def whoT (d : RoyD) (k : Int) (c : Nat) : Nat → Nat
  | 0 => 0
  | g + 1 => if clmB d k g c then whoT d k c g ||| 2 ^ g else whoT d k c g
theorem whoT_bit (d : RoyD) (k : Int) (c : Nat) : ∀ (n g : Nat), (whoT d k c n).testBit g = (decide (g < n) && clmB d k g c)
  | 0, g => by simp [whoT]
  | n + 1, g => by
    have ih := whoT_bit d k c n g
    rw [whoT]
    by_cases hg : g = n
    · subst hg
      rw [decide_eq_true (Nat.lt_succ_self g), Bool.true_and]
      cases h : clmB d k g c
      · rw [if_neg (by decide), ih, decide_eq_false (Nat.lt_irrefl g), Bool.false_and]
      · rw [if_pos rfl, Nat.testBit_or, Nat.testBit_two_pow_self, Bool.or_true]
    · have e : decide (g < n + 1) = decide (g < n) := decide_eq_decide.2 (by omega)
      rw [e]
      split
      · rw [Nat.testBit_or, Nat.testBit_two_pow_of_ne (by omega), Bool.or_false, ih]
      · exact ih
theorem whoT_lt (d : RoyD) (k : Int) (c : Nat) : ∀ n, whoT d k c n < 2 ^ n
  | 0 => by simp [whoT]
  | n + 1 => by
    have ih := whoT_lt d k c n
    have h2 : 2 ^ (n + 1) = 2 * 2 ^ n := by rw [Nat.pow_succ]; omega
    rw [whoT]
    split
    · exact Nat.or_lt_two_pow (by omega) (by omega)
    · omega
def whoN (d : RoyD) (k : Int) (c : Nat) : Nat := whoT d k c 4
/-- The cards that are sold, and who claims each one, among the first numbers. -/
def soldT (d : RoyD) (k : Int) : Nat → List (Nat × Nat)
  | 0 => []
  | c + 1 => soldT d k c ++ if whoN d k c = 0 then [] else [(c, whoN d k c)]
def soldL (d : RoyD) (k : Int) : List (Nat × Nat) := soldT d k 12
theorem soldT_mem {d : RoyD} {k : Int} : ∀ {n : Nat} {x : Nat × Nat}, x ∈ soldT d k n ↔ x.1 < n ∧ x.2 = whoN d k x.1 ∧ x.2 ≠ 0
  | 0, x => by simp [soldT]
  | n + 1, x => by
    have ih := soldT_mem (d := d) (k := k) (n := n) (x := x)
    rw [soldT, List.mem_append, ih]
    by_cases h : whoN d k n = 0
    · rw [if_pos h]
      constructor
      · rintro (⟨h1, h2, h3⟩ | h1)
        · exact ⟨by omega, h2, h3⟩
        · cases h1
      · rintro ⟨h1, h2, h3⟩
        refine .inl ⟨?_, h2, h3⟩
        rcases (show x.1 < n ∨ x.1 = n by omega) with h4 | h4
        · exact h4
        · rw [h4] at h2; exact absurd (h2.trans h) h3
    · rw [if_neg h, List.mem_singleton]
      constructor
      · rintro (⟨h1, h2, h3⟩ | rfl)
        · exact ⟨by omega, h2, h3⟩
        · exact ⟨Nat.lt_succ_self n, rfl, h⟩
      · rintro ⟨h1, h2, h3⟩
        rcases (show x.1 < n ∨ x.1 = n by omega) with h4 | h4
        · exact .inl ⟨h4, h2, h3⟩
        · right
          obtain ⟨x1, x2⟩ := x
          simp only at h2 h4
          subst h4; subst h2; rfl
theorem soldT_len {d : RoyD} {k : Int} : ∀ n, (soldT d k n).length ≤ n
  | 0 => by simp [soldT]
  | n + 1 => by
    have ih := soldT_len (d := d) (k := k) n
    rw [soldT, List.length_append]
    split <;> simp <;> omega
/-- Counts of cards, by agents. -/
abbrev Cts := Nat × Nat × Nat × Nat
def cget (n : Cts) (g : Nat) : Nat := if g = 0 then n.1 else if g = 1 then n.2.1 else if g = 2 then n.2.2.1 else n.2.2.2
def cinc (n : Cts) (g : Nat) : Cts := if g = 0 then (n.1 + 1, n.2) else if g = 1 then (n.1, n.2.1 + 1, n.2.2) else if g = 2 then (n.1, n.2.1, n.2.2.1 + 1, n.2.2.2) else (n.1, n.2.1, n.2.2.1, n.2.2.2 + 1)
/-- What all agents have together. -/
def totF (d : RoyD) (price : Int) (n : Cts) : Nat → Int
  | 0 => 0
  | g + 1 => totF d price n g + comV (d.terms.getD g ⟨0, 0, 0⟩) price (cget n g)
def totV (d : RoyD) (price : Int) (n : Cts) : Int := totF d price n d.terms.length
/-- The counts that can be behind some cards, as often as there are ways. -/
def stepC (m : Nat) (who : Nat) (S : List Cts) : List Cts := S.flatMap fun n => ((List.range m).filter fun g => who.testBit g).map (cinc n)
def reachW (m : Nat) (ws : List Nat) : List Cts := ws.foldl (fun S w => stepC m w S) [(0, 0, 0, 0)]
def reachL (d : RoyD) (k : Int) : List Cts := reachW d.terms.length ((soldL d k).map Prod.snd)
theorem stepC_mem {m who : Nat} {S : List Cts} {n : Cts} : n ∈ stepC m who S ↔ ∃ y ∈ S, ∃ g, g < m ∧ who.testBit g = true ∧ n = cinc y g := by
  unfold stepC
  rw [List.mem_flatMap]
  constructor
  · rintro ⟨y, hy, h⟩
    obtain ⟨g, hg, rfl⟩ := List.mem_map.1 h
    rw [List.mem_filter, List.mem_range] at hg
    exact ⟨y, hy, g, hg.1, hg.2, rfl⟩
  · rintro ⟨y, hy, g, h1, h2, rfl⟩
    exact ⟨y, hy, List.mem_map.2 ⟨g, List.mem_filter.2 ⟨List.mem_range.2 h1, h2⟩, rfl⟩⟩
theorem reachW_snoc (m : Nat) (ws : List Nat) (w : Nat) : reachW m (ws ++ [w]) = stepC m w (reachW m ws) := by
  unfold reachW; rw [List.foldl_append]; rfl
/-- The least and the greatest of some numbers. -/
def loL : List Int → Int
  | [] => 0
  | x :: l => l.foldl min x
def hiL : List Int → Int
  | [] => 0
  | x :: l => l.foldl max x
theorem fold_min : ∀ (l : List Int) (x : Int), (l.foldl min x ≤ x ∧ ∀ y ∈ l, l.foldl min x ≤ y) ∧ (l.foldl min x = x ∨ l.foldl min x ∈ l)
  | [], x => ⟨⟨Int.le_refl _, by simp⟩, .inl rfl⟩
  | z :: l, x => by
    obtain ⟨⟨h1, h2⟩, h3⟩ := fold_min l (min x z)
    rw [List.foldl_cons]
    refine ⟨⟨by omega, fun y hy => ?_⟩, ?_⟩
    · rcases List.mem_cons.1 hy with rfl | hy
      · omega
      · exact h2 y hy
    · rcases h3 with h3 | h3
      · by_cases h : x ≤ z
        · left; omega
        · right; rw [show l.foldl min (min x z) = z by omega]; exact .head _
      · exact .inr (.tail _ h3)
theorem fold_max : ∀ (l : List Int) (x : Int), (x ≤ l.foldl max x ∧ ∀ y ∈ l, y ≤ l.foldl max x) ∧ (l.foldl max x = x ∨ l.foldl max x ∈ l)
  | [], x => ⟨⟨Int.le_refl _, by simp⟩, .inl rfl⟩
  | z :: l, x => by
    obtain ⟨⟨h1, h2⟩, h3⟩ := fold_max l (max x z)
    rw [List.foldl_cons]
    refine ⟨⟨by omega, fun y hy => ?_⟩, ?_⟩
    · rcases List.mem_cons.1 hy with rfl | hy
      · omega
      · exact h2 y hy
    · rcases h3 with h3 | h3
      · by_cases h : z ≤ x
        · left; omega
        · right; rw [show l.foldl max (max x z) = z by omega]; exact .head _
      · exact .inr (.tail _ h3)
theorem loL_spec {l : List Int} (h : l ≠ []) : loL l ∈ l ∧ ∀ y ∈ l, loL l ≤ y := by
  cases l with
  | nil => exact absurd rfl h
  | cons x l =>
    obtain ⟨⟨h1, h2⟩, h3⟩ := fold_min l x
    refine ⟨?_, fun y hy => ?_⟩
    · rcases h3 with h3 | h3
      · show l.foldl min x ∈ _; rw [h3]; exact .head _
      · exact .tail _ h3
    · rcases List.mem_cons.1 hy with rfl | hy
      · exact h1
      · exact h2 y hy
theorem hiL_spec {l : List Int} (h : l ≠ []) : hiL l ∈ l ∧ ∀ y ∈ l, y ≤ hiL l := by
  cases l with
  | nil => exact absurd rfl h
  | cons x l =>
    obtain ⟨⟨h1, h2⟩, h3⟩ := fold_max l x
    refine ⟨?_, fun y hy => ?_⟩
    · rcases h3 with h3 | h3
      · show l.foldl max x ∈ _; rw [h3]; exact .head _
      · exact .tail _ h3
    · rcases List.mem_cons.1 hy with rfl | hy
      · exact h1
      · exact h2 y hy
theorem lo_same {l m : List Int} (h : ∀ x, x ∈ l ↔ x ∈ m) (hn : l ≠ []) : loL l = loL m ∧ hiL l = hiL m := by
  have hm : m ≠ [] := fun e => by
    cases l with
    | nil => exact hn rfl
    | cons x l => have := (h x).1 (.head _); rw [e] at this; cases this
  obtain ⟨a1, a2⟩ := loL_spec hn
  obtain ⟨b1, b2⟩ := loL_spec hm
  obtain ⟨c1, c2⟩ := hiL_spec hn
  obtain ⟨e1, e2⟩ := hiL_spec hm
  have f1 := a2 _ ((h _).2 b1)
  have f2 := b2 _ ((h _).1 a1)
  have f3 := c2 _ ((h _).2 e1)
  have f4 := e2 _ ((h _).1 c1)
  omega
end Go.RoyM

namespace Go.Sy
def popF : Nat → Nat → Nat
  | 0, _ => 0
  | k + 1, n => n % 2 + popF k (n / 2)
/-- How many bits of a number are set. -/
def pc (n : Nat) : Nat := popF 64 n

theorem popF_zero : ∀ k, popF k 0 = 0
  | 0 => rfl
  | k + 1 => by simp [popF, popF_zero k]
theorem popF_more : ∀ (k n : Nat), n < 2 ^ k → popF (k + 1) n = popF k n
  | 0, n, h => by have : n = 0 := by simp at h; omega
                  subst this; simp [popF]
  | k + 1, n, h => by
    rw [popF, popF_more k (n / 2) (by rw [Nat.pow_succ] at h; omega), popF]
theorem pc_zero : pc 0 = 0 := popF_zero 64
theorem pc_step {n : Nat} (h : n < 2 ^ 64) : pc n = n % 2 + pc (n / 2) := by
  unfold pc
  have : popF 64 n = n % 2 + popF 63 (n / 2) := rfl
  rw [this, ← popF_more 63 (n / 2) (by omega)]
theorem popF_le : ∀ (k n : Nat), popF k n ≤ k
  | 0, _ => by simp [popF]
  | k + 1, n => by have := popF_le k (n / 2); rw [popF]; omega
theorem popF_eq : ∀ (j k n : Nat), n < 2 ^ k → k ≤ j → popF j n = popF k n
  | 0, k, n, h, hj => by have : k = 0 := by omega
                         subst this; rfl
  | j + 1, k, n, h, hj => by
    by_cases hk : k = j + 1
    · subst hk; rfl
    · rw [popF_more j n (Nat.lt_of_lt_of_le h (Nat.pow_le_pow_right (by omega) (by omega))), popF_eq j k n h (by omega)]
theorem popF_add : ∀ (k j n m : Nat), n < 2 ^ k → popF (k + j) (2 ^ k * m + n) = popF k n + popF j m
  | 0, j, n, m, h => by have : n = 0 := by simp at h; omega
                        subst this; simp [popF]
  | k + 1, j, n, m, h => by
    have e1 : (2 ^ (k + 1) * m + n) % 2 = n % 2 := by rw [Nat.pow_succ, Nat.mul_right_comm]; omega
    have e2 : (2 ^ (k + 1) * m + n) / 2 = 2 ^ k * m + n / 2 := by rw [Nat.pow_succ, Nat.mul_right_comm]; omega
    rw [show k + 1 + j = (k + j) + 1 by omega, popF, e1, e2, popF_add k j (n / 2) m (by rw [Nat.pow_succ] at h; omega), popF]
    omega
theorem pc_bytes {h l : Nat} (hh : h < 256) (hl : l < 256) : pc (256 * h + l) = pc h + pc l := by
  have h1 := popF_add 8 8 l h hl
  unfold pc
  rw [popF_eq 64 16 (256 * h + l) (by omega) (by omega), popF_eq 64 8 h hh (by omega), popF_eq 64 8 l hl (by omega)]
  simpa [Nat.add_comm] using h1

theorem land_split (a b m M : Nat) (ha : a < 256) (hm : m < 256) : (256 * b + a) &&& (256 * M + m) = 256 * (b &&& M) + (a &&& m) := by
  have hx : a &&& m < 2 ^ 8 := Nat.and_lt_two_pow _ (by omega)
  apply Nat.eq_of_testBit_eq
  intro j
  rw [Nat.testBit_and, show 256 = 2 ^ 8 from rfl, Nat.testBit_two_pow_mul_add _ (by omega), Nat.testBit_two_pow_mul_add _ (by omega), Nat.testBit_two_pow_mul_add _ (by omega)]
  split <;> simp [Nat.testBit_and]

def sw1 (x : Nat) : Nat := ((x / 2) &&& 6148914691236517205) + (x &&& 6148914691236517205)
def sw2 (x : Nat) : Nat := ((x / 4) &&& 3689348814741910323) + (x &&& 3689348814741910323)
def sw3 (x : Nat) : Nat := (x / 16 + x) &&& 1085102592571150095
def sw4 (x : Nat) : Nat := x + x / 256
def sw5 (x : Nat) : Nat := x + x / 65536
def sw6 (x : Nat) : Nat := x + x / 4294967296
def sw (x : Nat) : Nat := (sw6 (sw5 (sw4 (sw3 (sw2 (sw1 x)))))) &&& 127

def upto (p : Nat → Bool) : Nat → Bool
  | 0 => true
  | n + 1 => p n && upto p n
theorem upto_get {p : Nat → Bool} : ∀ {n : Nat}, upto p n = true → ∀ i, i < n → p i = true
  | 0, _, i, hi => by omega
  | n + 1, h, i, hi => by
    simp only [upto, Bool.and_eq_true] at h
    by_cases e : i = n
    · subst e; exact h.1
    · exact upto_get h.2 i (by omega)

theorem byte1 : upto (fun l => Nat.beq ((128 + l / 2) &&& 85) ((l / 2) &&& 85) && Nat.beq ((l / 2) &&& 6148914691236517205) ((l / 2) &&& 85) && Nat.beq (l &&& 6148914691236517205) (l &&& 85) && Nat.blt (sw1 l) 171) 256 = true := by kernel_rfl
theorem byte2 : upto (fun l => Nat.beq ((64 + l / 4) &&& 51) ((l / 4) &&& 51) && Nat.beq ((128 + l / 4) &&& 51) ((l / 4) &&& 51) && Nat.beq ((192 + l / 4) &&& 51) ((l / 4) &&& 51) && Nat.beq ((l / 4) &&& 3689348814741910323) ((l / 4) &&& 51) && Nat.beq (l &&& 3689348814741910323) (l &&& 51) && Nat.blt (sw2 l) 103) 256 = true := by kernel_rfl
theorem byte0 : upto (fun l => Nat.beq (sw3 (sw2 (sw1 l))) (pc l) && Nat.ble (sw2 (sw1 l)) 68 && Nat.ble (sw2 (sw1 l) % 16) 4 && Nat.blt (sw1 l) 171) 256 = true := by kernel_rfl
theorem nib : upto (fun l => Nat.beq (l &&& 15) (l % 16) && Nat.beq (l &&& 1085102592571150095) (l % 16)) 256 = true := by kernel_rfl

theorem sw1_bytes {h l : Nat} (hh : h < 256) (hl : l < 256) : sw1 (256 * h + l) = 256 * sw1 h + sw1 l := by
  have bl := upto_get byte1 l hl
  have bh := upto_get byte1 h hh
  simp only [Bool.and_eq_true, Nat.beq_eq] at bl bh
  have e : (256 * h + l) / 2 = 256 * (h / 2) + (128 * (h % 2) + l / 2) := by omega
  have k : (128 * (h % 2) + l / 2) &&& 85 = (l / 2) &&& 85 := by
    rcases Nat.mod_two_eq_zero_or_one h with h0 | h0 <;> rw [h0]
    · simp
    · exact bl.1.1.1
  unfold sw1
  rw [e, show 6148914691236517205 = 256 * 24019198012642645 + 85 from rfl, land_split _ _ _ _ (by omega) (by omega), land_split _ _ _ _ hl (by omega), k]
  have c1 : (h / 2) &&& 24019198012642645 = (h / 2) &&& 85 := by
    have := land_split (h / 2) 0 85 93824992236885 (by omega) (by omega)
    simpa using this
  have c2 : h &&& 24019198012642645 = h &&& 85 := by
    have := land_split h 0 85 93824992236885 hh (by omega)
    simpa using this
  rw [c1, c2, ← show 6148914691236517205 = 256 * 24019198012642645 + 85 from rfl, bh.1.1.2, bh.1.2, bl.1.1.2, bl.1.2]
  omega
theorem sw2_bytes {h l : Nat} (hh : h < 256) (hl : l < 256) : sw2 (256 * h + l) = 256 * sw2 h + sw2 l := by
  have bl := upto_get byte2 l hl
  have bh := upto_get byte2 h hh
  simp only [Bool.and_eq_true, Nat.beq_eq] at bl bh
  have e : (256 * h + l) / 4 = 256 * (h / 4) + (64 * (h % 4) + l / 4) := by omega
  have k : (64 * (h % 4) + l / 4) &&& 51 = (l / 4) &&& 51 := by
    have h4 : h % 4 = 0 ∨ h % 4 = 1 ∨ h % 4 = 2 ∨ h % 4 = 3 := by omega
    rcases h4 with h0 | h0 | h0 | h0 <;> rw [h0]
    · simp
    · exact bl.1.1.1.1.1
    · exact bl.1.1.1.1.2
    · exact bl.1.1.1.2
  unfold sw2
  rw [e, show 3689348814741910323 = 256 * 14411518807585587 + 51 from rfl, land_split _ _ _ _ (by omega) (by omega), land_split _ _ _ _ hl (by omega), k]
  have c1 : (h / 4) &&& 14411518807585587 = (h / 4) &&& 51 := by
    have := land_split (h / 4) 0 51 56294995342131 (by omega) (by omega)
    simpa using this
  have c2 : h &&& 14411518807585587 = h &&& 51 := by
    have := land_split h 0 51 56294995342131 hh (by omega)
    simpa using this
  rw [c1, c2, ← show 3689348814741910323 = 256 * 14411518807585587 + 51 from rfl, bh.1.1.2, bh.1.2, bl.1.1.2, bl.1.2]
  omega
theorem sw3_bytes {h l : Nat} (hh : h ≤ 68) (h4 : h % 16 ≤ 4) (hl : l ≤ 68) : sw3 (256 * h + l) = 256 * sw3 h + sw3 l := by
  have e : (256 * h + l) / 16 + (256 * h + l) = 256 * (h / 16 + h) + (16 * (h % 16) + l / 16 + l) := by omega
  have n1 := upto_get nib (16 * (h % 16) + l / 16 + l) (by omega)
  have n2 := upto_get nib (l / 16 + l) (by omega)
  have n3 := upto_get nib (h / 16 + h) (by omega)
  simp only [Bool.and_eq_true, Nat.beq_eq] at n1 n2 n3
  unfold sw3
  rw [e, n2.2, n3.2, show 1085102592571150095 = 256 * 4238682002231055 + 15 from rfl, land_split _ _ _ _ (by omega) (by omega), n1.1]
  have c : (h / 16 + h) &&& 4238682002231055 = (h / 16 + h) % 16 := by
    have := land_split (h / 16 + h) 0 15 16557351571215 (by omega) (by omega)
    simp only [Nat.mul_zero, Nat.zero_add, Nat.zero_and] at this
    rw [show 256 * 16557351571215 + 15 = 4238682002231055 from rfl] at this
    rw [this, n3.1]
  rw [c]
  omega

/-- The library's way of counting bits. -/
theorem sw_pc {x : Nat} (hx : x < 65536) : sw x = pc x := by
  obtain ⟨h, l, hh, hl, rfl⟩ : ∃ h l, h < 256 ∧ l < 256 ∧ x = 256 * h + l := ⟨x / 256, x % 256, by omega, by omega, by omega⟩
  have bl := upto_get byte0 l hl
  have bh := upto_get byte0 h hh
  simp only [Bool.and_eq_true, Nat.beq_eq, Nat.ble_eq] at bl bh
  have ll := Nat.le_of_ble_eq_true bl.2
  have lh := Nat.le_of_ble_eq_true bh.2
  have e3 : sw3 (sw2 (sw1 (256 * h + l))) = 256 * pc h + pc l := by
    rw [sw1_bytes hh hl, sw2_bytes (by omega) (by omega), sw3_bytes bh.1.1.2 bh.1.2 bl.1.1.2, bl.1.1.1, bh.1.1.1]
  have p1 : pc h ≤ 8 := by unfold pc; rw [popF_eq 64 8 h hh (by omega)]; exact popF_le 8 h
  have p2 : pc l ≤ 8 := by unfold pc; rw [popF_eq 64 8 l hl (by omega)]; exact popF_le 8 l
  have e4 : sw4 (256 * pc h + pc l) = 256 * pc h + (pc l + pc h) := by unfold sw4; omega
  have e5 : sw5 (256 * pc h + (pc l + pc h)) = 256 * pc h + (pc l + pc h) := by unfold sw5; omega
  have e6 : sw6 (256 * pc h + (pc l + pc h)) = 256 * pc h + (pc l + pc h) := by unfold sw6; omega
  unfold sw
  rw [e3, e4, e5, e6, pc_bytes hh hl]
  have := land_split (pc l + pc h) (pc h) 127 0 (by omega) (by omega)
  simp only [Nat.mul_zero, Nat.zero_add, Nat.and_zero] at this
  rw [this]
  have n : (pc l + pc h) &&& 127 = (pc l + pc h) % 128 := Nat.and_two_pow_sub_one_eq_mod _ 7
  rw [n]; omega
attribute [irreducible] pc sw
end Go.Sy
namespace Go.Sy
theorem sw1_le (x : Nat) (h : x < 65536) : sw1 x ≤ 131072 := by
  have a := Nat.and_le_left (n := x / 2) (m := 6148914691236517205); have b := Nat.and_le_left (n := x) (m := 6148914691236517205)
  unfold sw1; omega
theorem sw2_le (x : Nat) (h : x < 65536) : sw2 (sw1 x) ≤ 262144 := by
  have k := sw1_le x h
  have a := Nat.and_le_left (n := sw1 x / 4) (m := 3689348814741910323); have b := Nat.and_le_left (n := sw1 x) (m := 3689348814741910323)
  unfold sw2; omega
theorem sw3_le (x : Nat) (h : x < 65536) : sw3 (sw2 (sw1 x)) ≤ 524288 := by
  have k := sw2_le x h
  have a := Nat.and_le_left (n := sw2 (sw1 x) / 16 + sw2 (sw1 x)) (m := 1085102592571150095)
  unfold sw3; omega
theorem sw4_le (x : Nat) (h : x < 65536) : sw4 (sw3 (sw2 (sw1 x))) ≤ 1048576 := by
  have k := sw3_le x h
  unfold sw4; omega
theorem sw5_le (x : Nat) (h : x < 65536) : sw5 (sw4 (sw3 (sw2 (sw1 x)))) ≤ 2097152 := by
  have k := sw4_le x h
  unfold sw5; omega
theorem sw6_le (x : Nat) (h : x < 65536) : sw6 (sw5 (sw4 (sw3 (sw2 (sw1 x))))) ≤ 4194304 := by
  have k := sw5_le x h
  unfold sw6; omega
end Go.Sy

namespace Go.RoyM
open Go Go.Sy
/-- What agents have at least behind some cards, if others are still to be sold. -/
def leastV (d : RoyD) (price : Int) : List Nat → Cts → Int
  | [], n => totV d price n
  | w :: ws, n => loL (((List.range d.terms.length).filter fun g => w.testBit g).map fun g => leastV d price ws (cinc n g))
/-- The first agent with whom the least is reached. -/
def pickA (d : RoyD) (price : Int) (w : Nat) (ws : List Nat) (n : Cts) : Nat := ((List.range d.terms.length).find? fun g => w.testBit g && decide (leastV d price ws (cinc n g) ≤ leastV d price (w :: ws) n)).getD 0
def leastL (d : RoyD) (price : Int) : List Nat → Cts → List Nat
  | [], _ => []
  | w :: ws, n => pickA d price w ws n :: leastL d price ws (cinc n (pickA d price w ws n))
def priceN (d : RoyD) (k : Int) : Int := d.prices.getD k.toNat 0
def sharesN (d : RoyD) (k : Int) : List Int := d.shares.getD k.toNat []
def cards (n : Cts) : Int := (n.1 : Int) + n.2.1 + n.2.2.1 + n.2.2.2
def poolV (d : RoyD) (k : Int) (n : Cts) : Int := cards n * priceN d k - totV d (priceN d k) n
def isKd (d : RoyD) (k : Int) : Bool := inI k 0 ((d.prices.length : Int) - 1)
def isAg (d : RoyD) (g : Int) : Bool := inI g 0 ((d.terms.length : Int) - 1)
/-- The errno that royalties which cannot be opened tell. -/
def openE (d : RoyD) (b : Bool) : Int := if royB d = false then 1 else if b = false then 2 else 0
def allE (d : RoyD) (k : Int) : Int := openE d (isKd d k)
def allV (d : RoyD) (k : Int) : Int × Int := if allE d k = 0 then (loL ((reachL d k).map (totV d (priceN d k))), hiL ((reachL d k).map (totV d (priceN d k)))) else (0, 0)
def getE (d : RoyD) (k part : Int) : Int := openE d (isKd d k && inI part 0 (((sharesN d k).length : Int) - 1))
def getF (d : RoyD) (k part : Int) (n : Cts) : Int := (splitL (poolV d k n) (sharesN d k)).getD part.toNat 0
def getV (d : RoyD) (k part : Int) : Int × Int := if getE d k part = 0 then (loL ((reachL d k).map (getF d k part)), hiL ((reachL d k).map (getF d k part))) else (0, 0)
/-- The cards that are surely an agent's: those that no other claims. -/
def surT (d : RoyD) (k : Int) (g : Nat) : Nat → Nat
  | 0 => clm d k g
  | h + 1 => if h = g then surT d k g h else surT d k g h ^^^ (surT d k g h &&& clm d k h)
def surN (d : RoyD) (k : Int) (g : Nat) : Nat := surT d k g 4
def termN (d : RoyD) (g : Nat) : TermD := d.terms.getD g ⟨0, 0, 0⟩
def oweE (d : RoyD) (g : Int) : Int := openE d (isAg d g)
def oweV (d : RoyD) (g : Int) : Int × Int := if oweE d g = 0 then
    (sumI (-(d.paid.getD g.toNat 0) :: (List.range d.prices.length).map fun k => comV (termN d g.toNat) (d.prices.getD k 0) (pc (surN d k g.toNat))),
     sumI (-(d.paid.getD g.toNat 0) :: (List.range d.prices.length).map fun k => comV (termN d g.toNat) (d.prices.getD k 0) (pc (clm d k g.toNat))))
  else (0, 0)
/-- The first report that has a card of one before it. -/
def meetB (x y : RepD) : Bool := decide (x.kd = y.kd) && decide (crd x &&& crd y ≠ 0)
end Go.RoyM

