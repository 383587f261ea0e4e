/- Lemmas, in order: The truth with the least, card by card. Lists that are written out, in memory; the values of the examples. What the law of pence asks. Pence as the document shares them, in memory. What the document's functions on royalties compute. Lists of agents in memory; the document's claims. Sums of what is owed; royalties that are not great. All truths, as the document goes through them. Lists of truths in memory; the best of them. Truths that are made; the order of truths. Royalties where no card is told twice. A report more, of cards that are claimed already. Whoever truly sold the cards. Agents numbered otherwise, reports told in another order. TopRound's law in plain numbers: one agent, one view, a card for each stop of a tour. The document's shares and terms. Tours in plain numbers: when one begins at a view, what holds on the way, the best sure order. TopStraight's law in plain numbers: views of a map, to which one goes straight. Tours in memory. Panics of walks, and what becomes of them. The first that is not valid; spans. Lists of spans in memory, read and laid.. -/
import Derived.Test.YtccpgpnekoncoaaGreatQ14
namespace Go.RoyM
open Go Go.Sy
/-- How far the truth is told. -/
def ToldL (d : RoyD) (x : Int) (ws : List Nat) (i : Nat) (n : Cts) (pre : List Nat) : Prop := pre.length = i ∧ leastL d x ws (0, 0, 0, 0) = pre ++ leastL d x (ws.drop i) n
theorem ToldL.zero (d : RoyD) (x : Int) (ws : List Nat) : ToldL d x ws 0 (0, 0, 0, 0) [] := ⟨rfl, rfl⟩
theorem ToldL.next {d : RoyD} {x : Int} {ws : List Nat} {i : Nat} {n : Cts} {pre : List Nat} (h : ToldL d x ws i n pre) {w g : Nat} (hw : ws[i]? = some w) (hg : pickA d x w (ws.drop (i + 1)) n = g) : ToldL d x ws (i + 1) (cinc n g) (pre ++ [g]) := by
  have hi := len_of hw
  refine ⟨by rw [List.length_append, h.1]; rfl, ?_⟩
  rw [h.2, List.drop_eq_getElem_cons hi, (List.getElem?_eq_some_iff.1 hw).2, leastL, hg, List.append_assoc]; rfl
theorem ToldL.done {d : RoyD} {x : Int} {ws : List Nat} {i : Nat} {n : Cts} {pre : List Nat} (h : ToldL d x ws i n pre) (hi : i = ws.length) : leastL d x ws (0, 0, 0, 0) = pre := by
  rw [h.2, hi, List.drop_length]
  show pre ++ [] = pre
  exact List.append_nil _
end Go.RoyM

namespace Go.RoyM
open Go Go.Sy
end Go.RoyM

namespace Go.RoyM
open Go Go.Sy
theorem OwnN.pos {oa : Option Addr} {cap : Nat} {l : List Int} {H : List (Nat × Obj)} (h : OwnN oa cap l H) (hl : 1 ≤ l.length) : ∃ B cur, oa = some ⟨B, 0, none⟩ ∧ cap = l.length ∧ H = [(B, .cells cur 3 (0, 0))] ∧ CF cur l.length (fun j => l.getD j 0) := by
  rcases h with ⟨_, _, rfl, _⟩ | h
  · simp at hl
  · exact h
theorem split_bd {n : Int} {l : List Int} (h0 : 0 ≤ n) (h1 : n ≤ 1099511627776) (hS : ShOk l) {j : Nat} (h : j < l.length) : 0 ≤ (splitL n l).getD j 0 ∧ (splitL n l).getD j 0 ≤ 1099511627777 := by
  rw [split_get h]; exact out_bd h0 h1 hS.bd _ h
theorem split_mem {n : Int} {l : List Int} (h0 : 0 ≤ n) (h1 : n ≤ 1099511627776) (hS : ShOk l) : ∀ x ∈ splitL n l, -1099511627777 ≤ x ∧ x ≤ 1099511627777 := fun x hx => by
  obtain ⟨j, hj⟩ := List.mem_iff_getElem?.1 hx
  have hl := len_of hj
  rw [split_len] at hl
  have := split_bd h0 h1 hS hl
  rw [getD_at hj] at this
  omega
theorem split_take {n : Int} {l : List Int} (h0 : 0 ≤ n) (h1 : n ≤ 1099511627776) (hS : ShOk l) (i : Nat) : -1099511627777000 ≤ sumI ((splitL n l).take i) ∧ sumI ((splitL n l).take i) ≤ 1099511627777000 := by
  have := take_bd (split_mem h0 h1 hS) (by omega) i (by rw [split_len]; have := hS.n2; omega)
  omega
end Go.RoyM

namespace Go.RoyM
open Go Go.Sy
theorem take_snoc {l : List Int} {i : Nat} {x : Int} (h : l[i]? = some x) (f : Int → Int) : ivs ((l.take (i + 1)).map f) = ivs ((l.take i).map f) ++ [.int .i64 (f x)] := by
  rw [List.take_add_one, h, List.map_append, ivs_app]; rfl
end Go.RoyM

namespace Go.RoyM
open Go Go.Sy
/-- Whether a report has a card. -/
def hasB (x : RepD) (k c : Int) : Bool := decide (x.kd = k) && inI c x.fi x.la
/-- The agents who claim a card, rising. -/
def claL (d : RoyD) (k c : Int) (n : Nat) : List Nat := (List.range n).filter fun g => d.reps.any fun x => decide (x.ag = (g : Int)) && hasB x k c
theorem claL_eq (d : RoyD) (k : Int) (c : Nat) : claL d k c d.terms.length = (List.range d.terms.length).filter fun g => clmB d k g c := by
  unfold claL clmB hasB inI
  congr 1
  funext g
  congr 1
  funext x
  cases decide (x.ag = (g : Int)) <;> cases decide (x.kd = k) <;> rfl
theorem claL_len (d : RoyD) (k c : Int) (n : Nat) : (claL d k c n).length ≤ n := by
  unfold claL
  refine Nat.le_trans (List.length_filter_le _ _) ?_
  rw [List.length_range]; exact Nat.le_refl _
theorem claL_mem {d : RoyD} {k : Int} {c g : Nat} : g ∈ claL d k c d.terms.length ↔ g < d.terms.length ∧ clmB d k g c = true := by
  rw [claL_eq, List.mem_filter, List.mem_range]
theorem claL_nodup (d : RoyD) (k c : Int) (n : Nat) : (claL d k c n).Nodup := List.Nodup.sublist List.filter_sublist List.nodup_range
theorem surT_bit {d : RoyD} (k : Int) (g c : Nat) : ∀ h, (surT d k g h).testBit c = ((clm d k g).testBit c && (List.range h).all fun j => decide (j = g) || !(clm d k j).testBit c)
  | 0 => by simp [surT]
  | h + 1 => by
    have ih := surT_bit (d := d) k g c h
    rw [surT, List.range_succ, List.all_append]
    split
    · rename_i e
      subst e
      rw [ih]; simp
    · rename_i e
      rw [Nat.testBit_xor, Nat.testBit_and, ih]
      simp only [List.all_cons, List.all_nil, Bool.and_true, decide_eq_false e, Bool.false_or]
      cases (clm d k g).testBit c <;> cases (List.range h).all (fun j => decide (j = g) || !(clm d k j).testBit c) <;> cases (clm d k h).testBit c <;> simp [e]
/-- A card is surely an agent's if nobody else claims it. -/
def surB (d : RoyD) (k : Int) (g c : Nat) : Bool := clmB d k g c && decide ((claL d k c d.terms.length).length = 1)
theorem one_of {l : List Nat} (hn : l.Nodup) {g : Nat} (hg : g ∈ l) : l.length = 1 ↔ ∀ j ∈ l, j = g := by
  constructor
  · intro h j hj
    match l, h with
    | [x], _ => rw [List.mem_singleton.1 hj, List.mem_singleton.1 hg]
  · intro h
    match l, hn, hg with
    | [x], _, _ => rfl
    | x :: y :: l, hn, _ =>
      exfalso
      have h1 := h x (.head _)
      have h2 := h y (.tail _ (.head _))
      rw [List.nodup_cons] at hn
      exact hn.1 (by rw [h1, ← h2]; exact .head _)
theorem sur_bit {d : RoyD} (hO : RoyOk d) (k : Int) (g c : Nat) : (surN d k g).testBit c = surB d k g c := by
  unfold surN surB
  rw [surT_bit, clm_bit hO]
  cases hc : clmB d k g c
  · simp
  · rw [Bool.true_and, Bool.true_and]
    have hg : g ∈ claL d k c d.terms.length := claL_mem.2 ⟨clm_lt hO hc, hc⟩
    rw [Bool.eq_iff_iff, decide_eq_true_eq, one_of (claL_nodup _ _ _ _) hg, List.all_eq_true]
    constructor
    · intro h j hj
      obtain ⟨h1, h2⟩ := claL_mem.1 hj
      have h3 := h j (List.mem_range.2 (by have := hO.nt; omega))
      rw [clm_bit hO, h2] at h3
      simpa using h3
    · intro h j hj
      rw [clm_bit hO]
      cases h2 : clmB d k j c
      · simp
      · have := h j (claL_mem.2 ⟨clm_lt hO h2, h2⟩)
        simp [this]
end Go.RoyM

namespace Go.RoyM
open Go Go.Sy
/-- Numbers that are not less than nought lie in memory. -/
def NAt (w : World) (sa : Option Addr) (l : List Nat) : Prop :=
  ∀ i x, l[i]? = some x → ∃ blk off c T fr, sa = some ⟨blk, off, none⟩ ∧ w.heap[blk]? = some (.cells c T fr) ∧ c[off + ((i : Nat) : Int).toNat * 1]? = some (.int .i64 ((x : Nat) : Int))
theorem NAt.ext {w w' : World} {sa : Option Addr} {l : List Nat} (h : NAt w sa l) (e : Ext [] w w') : NAt w' sa l := fun i s hi =>
  let ⟨blk, off, c, T, fr, h1, h2, h3⟩ := h i s hi
  ⟨blk, off, c, T, fr, h1, e.get h2, h3⟩
theorem NAt.iat {w : World} {sa : Option Addr} {l : List Nat} (h : NAt w sa l) : IAt w sa (l.map fun x => ((x : Nat) : Int)) := fun i x hi => by
  rw [List.getElem?_map] at hi
  cases e : l[i]? with
  | none => rw [e] at hi; cases hi
  | some y => rw [e] at hi; cases hi; exact h i y e
/-- A weight for an element that has come. -/
def inW (l : List Nat) (g w i : Nat) : Nat := if g ∈ l.take i then w else 0
end Go.RoyM

namespace Go.RoyM
open Go Go.Sy
end Go.RoyM

namespace Go.RoyM
open Go Go.Sy
def wsL (d : RoyD) (k : Int) : List Nat := (soldL d k).map Prod.snd
def csL (d : RoyD) (k : Int) : List Nat := (soldL d k).map Prod.fst
theorem cs_len (d : RoyD) (k : Int) : (csL d k).length = (wsL d k).length := by unfold csL wsL; rw [List.length_map, List.length_map]
theorem ws_len (d : RoyD) (k : Int) : (wsL d k).length ≤ 12 := by unfold wsL; rw [List.length_map]; exact sold_len d k
/-- Which cards are sold: those that somebody claims. -/
theorem sold_iff {d : RoyD} (hO : RoyOk d) (k : Int) (c : Nat) : whoN d k c = 0 ↔ (claL d k c d.terms.length).length = 0 := by
  rw [claL_eq]
  constructor
  · intro h
    rw [← who_clr hO, h]
    unfold clrL
    simp
  · intro h
    refine Decidable.byContradiction fun hn => ?_
    have := clr_ne hO hn
    rw [who_clr hO] at this
    exact this (List.eq_nil_of_length_eq_zero h)
def csT (d : RoyD) (k : Int) (n : Nat) : List Nat := (soldT d k n).map Prod.fst
theorem csT_put {d : RoyD} {k : Int} {c : Nat} (h : ¬ whoN d k c = 0) : csT d k (c + 1) = csT d k c ++ [c] := by
  unfold csT
  rw [soldT, if_neg h, List.map_append]; rfl
theorem csT_no {d : RoyD} {k : Int} {c : Nat} (h : whoN d k c = 0) : csT d k (c + 1) = csT d k c := by unfold csT; rw [soldT, if_pos h, List.append_nil]
theorem Ext.over {u0 u w : World} {M : List Nat} (h : Ext [] u0 u) (h' : Ext M u w) (hM : ∀ x ∈ M, u0.heap.size ≤ x) : Ext [] u0 w := h.chain h' fun x hx => .inr (hM x hx)
theorem tru_mem {m : Nat} : ∀ {ws t : List Nat}, t ∈ truA m ws → t.length = ws.length ∧ ∀ x ∈ t, x < m
  | [], t, h => by simp [truA] at h; subst h; simp
  | w :: ws, t, h => by
    rw [truA] at h
    obtain ⟨g, hg, h⟩ := List.mem_flatMap.1 h
    obtain ⟨s, hs, rfl⟩ := List.mem_map.1 h
    obtain ⟨h1, h2⟩ := tru_mem hs
    refine ⟨by rw [List.length_cons, List.length_cons, h1], fun x hx => ?_⟩
    rcases List.mem_cons.1 hx with rfl | hx
    · unfold clrL at hg
      exact List.mem_range.1 (List.mem_filter.1 hg).1
    · exact h2 x hx
end Go.RoyM

namespace Go.RoyM
open Go Go.Sy
/-- Lists of agents lie in memory, a slice for each. -/
def LsAt (w : World) (so : Option Addr) (L : List (List Nat)) : Prop :=
  ∀ i t, L[i]? = some t → ∃ blk off c T fr sb cb, so = some ⟨blk, off, none⟩ ∧ w.heap[blk]? = some (.cells c T fr) ∧ c[off + ((i : Nat) : Int).toNat * 1]? = some (.slice sb t.length cb) ∧ NAt w sb t
theorem LsAt.ext {w w' : World} {so : Option Addr} {L : List (List Nat)} (h : LsAt w so L) (e : Ext [] w w') : LsAt w' so L := fun i s hi =>
  let ⟨blk, off, c, T, fr, sb, cb, h1, h2, h3, h4⟩ := h i s hi
  ⟨blk, off, c, T, fr, sb, cb, h1, e.get h2, h3, h4.ext e⟩
def truL (d : RoyD) (k : Int) : List (List Nat) := truA d.terms.length (wsL d k)
theorem tru_facts {d : RoyD} (hO : RoyOk d) {k : Int} {t : List Nat} (h : t ∈ truL d k) : t.length ≤ 12 ∧ (∀ x ∈ t, x < 4) ∧ t.length = (wsL d k).length := by
  obtain ⟨h1, h2⟩ := tru_mem h
  have := ws_len d k
  have hn := hO.nt
  exact ⟨by omega, fun x hx => by have := h2 x hx; omega, h1⟩
theorem truL_ne {d : RoyD} (hO : RoyOk d) (k : Int) : truL d k ≠ [] := truA_ne (sold_some hO k)
theorem reach_map (d : RoyD) (k : Int) (f : Cts → Int) : (reachL d k).map f = (truL d k).map fun t => f (cnt (0, 0, 0, 0) t) := by
  rw [reachL_tru, List.map_map]; rfl
/-- The first of those with the least. -/
def BestAt (f : List Nat → Int) (L : List (List Nat)) (i b : Nat) (tb : List Nat) : Prop :=
  L[b]? = some tb ∧ (∀ j t, j < i → L[j]? = some t → f tb ≤ f t) ∧ ∀ j t, j < b → L[j]? = some t → f tb < f t
theorem BestAt.keep {f : List Nat → Int} {L : List (List Nat)} {i b : Nat} {tb t : List Nat} (h : BestAt f L i b tb) (hi : L[i]? = some t) (hn : ¬ f t < f tb) : BestAt f L (i + 1) b tb :=
  ⟨h.1, fun j t' hj h' => by
    rcases (show j < i ∨ j = i by omega) with h1 | h1
    · exact h.2.1 j t' h1 h'
    · subst h1; rw [hi] at h'; cases h'; omega, h.2.2⟩
theorem BestAt.turn {f : List Nat → Int} {L : List (List Nat)} {i b : Nat} {tb t : List Nat} (h : BestAt f L i b tb) (hi : L[i]? = some t) (hn : f t < f tb) : BestAt f L (i + 1) i t :=
  ⟨hi, fun j t' hj h' => by
    rcases (show j < i ∨ j = i by omega) with h1 | h1
    · have := h.2.1 j t' h1 h'; omega
    · subst h1; rw [hi] at h'; cases h'; exact Int.le_refl _, fun j t' hj h' => by have := h.2.1 j t' hj h'; omega⟩
end Go.RoyM

namespace Go.RoyM
open Go Go.Sy
/-- A truth: for each card one of those who claim it. -/
theorem tru_of {m : Nat} : ∀ {ws t : List Nat}, t.length = ws.length → (∀ (i g w : Nat), t[i]? = some g → ws[i]? = some w → g ∈ clrL m w) → t ∈ truA m ws
  | [], t, h, _ => by
    rw [List.length_nil] at h
    rw [List.eq_nil_of_length_eq_zero h]; simp [truA]
  | w :: ws, [], h, _ => by simp at h
  | w :: ws, g :: t, h, hg => by
    rw [truA]
    refine List.mem_flatMap.2 ⟨g, hg 0 g w rfl rfl, List.mem_map.2 ⟨t, tru_of (by simpa using h) fun i x y hx hy => hg (i + 1) x y hx hy, rfl⟩⟩
theorem allV_ok {d : RoyD} {k : Int} (he : allE d k = 0) : allV d k = (loL ((reachL d k).map (totV d (priceN d k))), hiL ((reachL d k).map (totV d (priceN d k)))) := by unfold allV; rw [if_pos he]
/-- Bytes lie in memory. -/
def BAt (w : World) (sa : Option Addr) (l : List Int) : Prop :=
  ∀ i x, l[i]? = some x → ∃ blk off c T fr, sa = some ⟨blk, off, none⟩ ∧ w.heap[blk]? = some (.cells c T fr) ∧ c[off + ((i : Nat) : Int).toNat * 1]? = some (.int .u8 x)
theorem BAt.ext {w w' : World} {sa : Option Addr} {l : List Int} (h : BAt w sa l) (e : Ext [] w w') : BAt w' sa l := fun i s hi =>
  let ⟨blk, off, c, T, fr, h1, h2, h3⟩ := h i s hi
  ⟨blk, off, c, T, fr, h1, e.get h2, h3⟩
/-- A truth so far. -/
def TruT (m : Nat) (ws t : List Nat) (i : Nat) : Prop := t.length = i ∧ ∀ (j g w : Nat), t[j]? = some g → ws[j]? = some w → g ∈ clrL m w
theorem TruT.zero (m : Nat) (ws : List Nat) : TruT m ws [] 0 := ⟨rfl, fun j g w h => by simp at h⟩
theorem TruT.put {m : Nat} {ws t : List Nat} {i g w : Nat} (h : TruT m ws t i) (hw : ws[i]? = some w) (hg : g ∈ clrL m w) : TruT m ws (t ++ [g]) (i + 1) := by
  refine ⟨by rw [List.length_append, h.1]; rfl, fun j g' w' h1 h2 => ?_⟩
  rw [List.getElem?_append] at h1
  split at h1
  · exact h.2 j g' w' h1 h2
  · rename_i hj
    have hjl : j = i := by
      have := h.1
      have h3 := len_of h1
      simp at h3; omega
    subst hjl
    rw [h.1, Nat.sub_self] at h1
    rw [hw] at h2
    cases h1; cases h2; exact hg
theorem TruT.done {m : Nat} {ws t : List Nat} (h : TruT m ws t ws.length) : t ∈ truA m ws := tru_of h.1 h.2
end Go.RoyM

namespace Go.RoyM
open Go Go.Sy
def NoMeet (d : RoyD) : Prop := ∀ (i j : Nat) (x y : RepD), j < i → d.reps[i]? = some x → d.reps[j]? = some y → meetB x y = false
theorem openE_z {d : RoyD} {b : Bool} : openE d b = 0 ↔ royB d = true ∧ b = true := by
  unfold openE
  cases royB d <;> cases b <;> simp
theorem allE_ok {d : RoyD} (hO : RoyOk d) {k : Nat} (hk : k < d.prices.length) : allE d k = 0 := by
  have h2 : isKd d k = true := by unfold isKd inI; simp only [Bool.and_eq_true, decide_eq_true_eq]; omega
  exact openE_z.2 ⟨royB_iff.2 hO, h2⟩
/-- No two reports meet among the first ones. -/
def NoT (d : RoyD) (n : Nat) : Prop := ∀ (i j : Nat) (x y : RepD), i < n → j < i → d.reps[i]? = some x → d.reps[j]? = some y → meetB x y = false
theorem NoT.next {d : RoyD} {n : Nat} {x : RepD} (h : NoT d n) (hx : d.reps[n]? = some x) (h2 : ∀ z, z < n → ∀ t, d.reps[z]? = some t → meetB x t = false) : NoT d (n + 1) := fun i j x' y hi hj h3 h4 => by
  rcases (show i < n ∨ i = n by omega) with h5 | h5
  · exact h i j x' y h5 hj h3 h4
  · subst h5; rw [hx] at h3; cases h3; exact h2 j hj y h4
theorem NoT.all {d : RoyD} (h : NoT d d.reps.length) : NoMeet d := fun i j x y hj hx hy => h i j x y (len_of hx) hj hx hy
end Go.RoyM

namespace Go.RoyM
open Go Go.Sy
theorem com_mono {t : TermD} (ht : TermOk t) {price : Int} (hp : 0 ≤ price) {m n : Nat} (h : m ≤ n) : comV t price m ≤ comV t price n := by
  have key : perN t m ≤ perN t n := by
    induction n with
    | zero => rw [show m = 0 by omega]; exact Int.le_refl _
    | succ n ih =>
      by_cases e : m = n + 1
      · rw [e]; exact Int.le_refl _
      · have h1 := ih (by omega)
        have h2 := perN_step (t := t) (many := ((n + 1 : Nat) : Int)) (by omega) ht.u0
        rw [show ((n + 1 : Nat) : Int) - 1 = (n : Int) by omega] at h2
        have := ht.f0; have := ht.b0
        split at h2 <;> omega
  unfold comV
  exact Int.ediv_le_ediv (by omega) (Int.mul_le_mul_of_nonneg_right key hp)
/-- Part of another report. -/
structure PartOf (d : RoyD) (r n : RepD) : Prop where
  mem : r ∈ d.reps
  kd : n.kd = r.kd
  fi : n.fi = r.fi
  la : n.la ≤ r.la
  ok : RepOk d n
section
variable {d : RoyD} {r n : RepD}
theorem owe_ok (hO : RoyOk d) {g : Nat} (hg : g < d.terms.length) : oweE d g = 0 ∧ oweV d g = (sumI (lowL d g d.prices.length), sumI (higL d g d.prices.length)) := by
  have h1 : isAg d g = true := by unfold isAg inI; simp only [Bool.and_eq_true, decide_eq_true_eq]; omega
  have h3 : oweE d g = 0 := openE_z.2 ⟨royB_iff.2 hO, h1⟩
  exact ⟨h3, by unfold oweV; rw [if_pos h3]; rfl⟩
theorem com_le (hO : RoyOk d) {g k : Nat} (hg : g < d.terms.length) (hk : k < d.prices.length) {a b : Nat} (h : a ≤ b) : comV (termN d g) (d.prices.getD k 0) (a : Nat) ≤ comV (termN d g) (d.prices.getD k 0) (b : Nat) := by
  obtain ⟨t, ht⟩ := ex_of hg
  obtain ⟨x, hx⟩ := ex_of hk
  rw [term_at ht, getD_at hx]
  exact com_mono (hO.t t (List.mem_of_getElem? ht)) (hO.p x (List.mem_of_getElem? hx)).1 h
end
end Go.RoyM

namespace Go.RoyM
open Go Go.Sy
theorem csL_T (d : RoyD) (k : Int) : csL d k = csT d k 12 := by unfold csL soldL csT; rfl
section
variable {d : RoyD} (hO : RoyOk d) {k : Int} {t : List Nat} (ht : t ∈ truL d k)
include hO ht
end
/-- Truths of the first kinds. -/
def TruS (d : RoyD) (Ts : List (List Nat)) : Prop := ∀ (j : Nat) (t : List Nat), Ts[j]? = some t → t ∈ truL d j
theorem TruS.put {d : RoyD} {Ts : List (List Nat)} (h : TruS d Ts) {t : List Nat} (ht : t ∈ truL d (Ts.length : Nat)) : TruS d (Ts ++ [t]) := fun j s hj => by
  rw [List.getElem?_append] at hj
  split at hj
  · exact h j s hj
  · rename_i hl
    have h1 := len_of hj
    have h2 : j = Ts.length := by simp at h1; omega
    subst h2
    rw [Nat.sub_self] at hj
    cases hj; exact ht
/-- What a part gets in a truth lies within its span. -/
theorem get_span {d : RoyD} (hO : RoyOk d) {k part : Nat} {t : List Nat} (ht : t ∈ truL d k) (hk : k < d.prices.length) (hp : part < (sharesN d k).length) : getE d k part = 0 ∧ (getV d k part).1 ≤ getF d k part (cnt (0, 0, 0, 0) t) ∧ getF d k part (cnt (0, 0, 0, 0) t) ≤ (getV d k part).2 := by
  have h1 : isKd d k = true := by unfold isKd inI; simp only [Bool.and_eq_true, decide_eq_true_eq]; omega
  have h2 : inI (part : Nat) 0 (((sharesN d k).length : Int) - 1) = true := by unfold inI; simp only [Bool.and_eq_true, decide_eq_true_eq]; omega
  have h3 : getE d k part = 0 := openE_z.2 ⟨royB_iff.2 hO, by rw [h1, h2]; rfl⟩
  refine ⟨h3, ?_⟩
  have hm : getF d k part (cnt (0, 0, 0, 0) t) ∈ (truL d k).map (fun t => getF d k part (cnt (0, 0, 0, 0) t)) := List.mem_map.2 ⟨t, ht, rfl⟩
  have ev : getV d k part = (loL ((truL d k).map fun t => getF d k part (cnt (0, 0, 0, 0) t)), hiL ((truL d k).map fun t => getF d k part (cnt (0, 0, 0, 0) t))) := by
    unfold getV
    rw [if_pos h3, reach_map]
  obtain ⟨L, hL⟩ : ∃ L, L = (truL d k).map fun t => getF d k part (cnt (0, 0, 0, 0) t) := ⟨_, rfl⟩
  rw [← hL] at hm ev
  rw [ev]
  exact ⟨(loL_spec (List.ne_nil_of_mem hm)).2 _ hm, (hiL_spec (List.ne_nil_of_mem hm)).2 _ hm⟩
end Go.RoyM

namespace Go.RoyM
open Go Go.Sy
def mvR (σ : Nat → Nat) (x : RepD) : RepD := ⟨((σ x.ag.toNat : Nat) : Int), x.kd, x.fi, x.la⟩
theorem clmB_iff {d : RoyD} {k : Int} {g c : Nat} : clmB d k g c = true ↔ ∃ x ∈ d.reps, x.kd = k ∧ x.ag = (g : Int) ∧ x.fi ≤ c ∧ (c : Int) ≤ x.la := by
  unfold clmB
  rw [List.any_eq_true]
  simp only [Bool.and_eq_true, decide_eq_true_eq, and_assoc]
structure TurnD (d d' : RoyD) (σ τ : Nat → Nat) : Prop where
  len : d'.terms.length = d.terms.length
  lenp : d'.paid.length = d.paid.length
  s1 : ∀ a, a < d.terms.length → σ a < d.terms.length ∧ τ (σ a) = a
  t1 : ∀ b, b < d.terms.length → τ b < d.terms.length ∧ σ (τ b) = b
  tm : ∀ a, a < d.terms.length → termN d' (σ a) = termN d a
  pd : ∀ a, a < d.terms.length → d'.paid.getD (σ a) 0 = d.paid.getD a 0
  pr : d'.prices = d.prices
  sh : d'.shares = d.shares
  rp : d'.reps = d.reps.reverse.map (mvR σ)
section
variable {d d' : RoyD} {σ τ : Nat → Nat} (hT : TurnD d d' σ τ) (hO : RoyOk d)
include hT hO
end
section
variable {d d' : RoyD} {σ τ : Nat → Nat} (hT : TurnD d d' σ τ) (hO : RoyOk d)
include hT hO
end
end Go.RoyM

namespace Go.RoyM
open Go Go.Sy
set_option linter.unusedSectionVars false
def rndR (i : Nat) : RepD := ⟨0, 0, (i : Nat), (i : Nat)⟩
def rndD (t0 : TermD) (price : Int) (sh : List Int) (m : Nat) : RoyD := ⟨[t0], [price], [sh], (List.range m).map rndR, [0]⟩
theorem ones_pc : ∀ m, m ≤ 6 → pc (2 ^ m - 1) = m := by
  intro m hm
  have : ∀ m : Fin 7, pc (2 ^ m.1 - 1) = m.1 := by decide +kernel
  exact this ⟨m, by omega⟩
section
variable {t0 : TermD} {price : Int} {m : Nat} {sh : List Int} (h0 : TermOk t0) (hp : 0 ≤ price ∧ price ≤ 1048576) (hm : m ≤ 6) (hs : ShOk sh)
include h0 hp hm hs
theorem rnd_ok : RoyOk (rndD t0 price sh m) := by
  refine ⟨by show 1 ≤ 4; omega, by show 1 ≤ 4; omega, rfl, by show ((List.range m).map rndR).length ≤ 20; rw [List.length_map, List.length_range]; omega, rfl, fun t ht => ?_, fun n hn => ?_, fun n hn => ?_, fun l hl => ?_, fun x hx => ?_⟩
  · rw [List.mem_singleton.1 ht]; exact h0
  · rw [List.mem_singleton.1 hn]; exact ⟨by omega, by omega⟩
  · rw [List.mem_singleton.1 hn]; exact hp
  · rw [List.mem_singleton.1 hl]; exact hs
  · obtain ⟨i, hi, rfl⟩ := List.mem_map.1 hx
    have := List.mem_range.1 hi
    exact ⟨by show (0 : Int) ≤ 0; omega, by show (0 : Int) < 1; omega, by show (0 : Int) ≤ 0; omega, by show (0 : Int) < 1; omega, by show (0 : Int) ≤ (i : Nat); omega, by show ((i : Nat) : Int) ≤ (i : Nat); omega, by show ((i : Nat) : Int) < 12; omega⟩
theorem rnd_clm (g c : Nat) : clmB (rndD t0 price sh m) 0 g c = true ↔ g = 0 ∧ c < m := by
  rw [clmB_iff]
  constructor
  · rintro ⟨x, hx, _, h2, h3, h4⟩
    obtain ⟨i, hi, rfl⟩ := List.mem_map.1 hx
    have := List.mem_range.1 hi
    replace h2 : (0 : Int) = (g : Int) := h2
    replace h3 : ((i : Nat) : Int) ≤ (c : Int) := h3
    replace h4 : (c : Int) ≤ ((i : Nat) : Int) := h4
    exact ⟨by omega, by omega⟩
  · rintro ⟨rfl, hc⟩
    exact ⟨rndR c, List.mem_map.2 ⟨c, List.mem_range.2 hc, rfl⟩, rfl, rfl, Int.le_refl _, Int.le_refl _⟩
theorem rnd_sold (c : Nat) : whoN (rndD t0 price sh m) 0 c = 0 ↔ m ≤ c := by
  have hO := rnd_ok h0 hp hm hs
  rw [sold_iff hO, List.length_eq_zero_iff]
  constructor
  · intro h
    refine Decidable.byContradiction fun hn => ?_
    have : 0 ∈ claL (rndD t0 price sh m) 0 c (rndD t0 price sh m).terms.length := claL_mem.2 ⟨by show 0 < 1; omega, (rnd_clm h0 hp hm hs 0 c).2 ⟨rfl, by omega⟩⟩
    rw [h] at this; cases this
  · intro h
    refine List.eq_nil_iff_forall_not_mem.2 fun g hg => ?_
    have := ((rnd_clm h0 hp hm hs g c).1 (claL_mem.1 hg).2).2
    omega
theorem rnd_cs : ∀ n, (csT (rndD t0 price sh m) 0 n).length = min n m
  | 0 => by simp [csT, soldT]
  | n + 1 => by
    have ih := rnd_cs n
    by_cases hz : whoN (rndD t0 price sh m) 0 n = 0
    · have := (rnd_sold h0 hp hm hs n).1 hz
      rw [csT_no hz, ih]; omega
    · have : ¬ m ≤ n := fun h => hz ((rnd_sold h0 hp hm hs n).2 h)
      rw [csT_put hz, List.length_append, ih]
      show min n m + 1 = _
      omega
/-- In each truth the one agent sold all cards. -/
theorem rnd_tru {t : List Nat} (ht : t ∈ truL (rndD t0 price sh m) 0) : t.length = m ∧ cnt (0, 0, 0, 0) t = (m, 0, 0, 0) := by
  have hO := rnd_ok h0 hp hm hs
  obtain ⟨g1, g2, g3⟩ := tru_facts hO ht
  have hcs := rnd_cs h0 hp hm hs 12
  have hl : t.length = m := by
    rw [g3, ← cs_len, csL_T, hcs]; omega
  have h1 : ∀ x ∈ t, x < 1 := (tru_mem (m := 1) ht).2
  have key : ∀ (l : List Nat) (n : Cts), (∀ x ∈ l, x < 1) → cnt n l = (n.1 + l.length, n.2) := by
    intro l
    induction l with
    | nil => intro n _; rfl
    | cons x l ih =>
      intro n h
      have hx : x = 0 := by have := h x (.head _); omega
      subst hx
      show cnt (cinc n 0) l = _
      rw [ih _ (fun y hy => h y (.tail _ hy))]
      unfold cinc
      rw [if_pos rfl]
      show (n.1 + 1 + l.length, n.2) = (n.1 + (l.length + 1), n.2)
      rw [show n.1 + 1 + l.length = n.1 + (l.length + 1) by omega]
  refine ⟨hl, ?_⟩
  rw [key t (0, 0, 0, 0) h1, hl]
  show (0 + m, 0, 0, 0) = _
  rw [Nat.zero_add]
theorem rnd_reach (f : Cts → Int) : loL ((reachL (rndD t0 price sh m) 0).map f) = f (m, 0, 0, 0) ∧ hiL ((reachL (rndD t0 price sh m) 0).map f) = f (m, 0, 0, 0) := by
  have hO := rnd_ok h0 hp hm hs
  rw [reach_map]
  obtain ⟨t, ht⟩ := List.exists_mem_of_ne_nil _ (truL_ne hO 0)
  have hm1 : f (m, 0, 0, 0) ∈ (truL (rndD t0 price sh m) 0).map fun t => f (cnt (0, 0, 0, 0) t) := List.mem_map.2 ⟨t, ht, by rw [(rnd_tru h0 hp hm hs ht).2]⟩
  have hall : ∀ y ∈ (truL (rndD t0 price sh m) 0).map fun t => f (cnt (0, 0, 0, 0) t), y = f (m, 0, 0, 0) := by
    intro y hy
    obtain ⟨s, hs1, rfl⟩ := List.mem_map.1 hy
    show f (cnt (0, 0, 0, 0) s) = _
    rw [(rnd_tru h0 hp hm hs hs1).2]
  exact ⟨lo_uniq hm1 fun y hy => by rw [hall y hy]; exact Int.le_refl _, hi_uniq hm1 fun y hy => by rw [hall y hy]; exact Int.le_refl _⟩
theorem rnd_tot : totV (rndD t0 price sh m) price (m, 0, 0, 0) = comV t0 price m := by
  unfold totV
  show totF _ _ _ 1 = _
  rw [totF, totF, Int.zero_add]; rfl
theorem rnd_all : allE (rndD t0 price sh m) 0 = 0 ∧ allV (rndD t0 price sh m) 0 = (comV t0 price m, comV t0 price m) := by
  have hO := rnd_ok h0 hp hm hs
  have e : allE (rndD t0 price sh m) ((0 : Nat) : Int) = 0 := allE_ok hO (by show 0 < 1; omega)
  have h := allV_ok e
  refine ⟨e, ?_⟩
  show allV _ ((0 : Nat) : Int) = _
  rw [h]
  show (loL ((reachL _ 0).map (totV _ price)), hiL ((reachL _ 0).map (totV _ price))) = _
  rw [(rnd_reach h0 hp hm hs _).1, (rnd_reach h0 hp hm hs _).2, rnd_tot h0 hp hm hs]
theorem rnd_bits : surN (rndD t0 price sh m) 0 0 = 2 ^ m - 1 ∧ clm (rndD t0 price sh m) 0 0 = 2 ^ m - 1 := by
  have hO := rnd_ok h0 hp hm hs
  have hb : ∀ c, clmB (rndD t0 price sh m) 0 0 c = decide (c < m) := fun c => by
    rw [Bool.eq_iff_iff, rnd_clm h0 hp hm hs, decide_eq_true_eq]
    exact ⟨fun h => h.2, fun h => ⟨rfl, h⟩⟩
  refine ⟨Nat.eq_of_testBit_eq fun c => ?_, Nat.eq_of_testBit_eq fun c => ?_⟩
  · rw [sur_bit hO, Nat.testBit_two_pow_sub_one]
    unfold surB
    rw [hb]
    by_cases hc : c < m
    · rw [decide_eq_true hc, Bool.true_and, decide_eq_true_eq]
      have h1 : 0 ∈ claL (rndD t0 price sh m) 0 c (rndD t0 price sh m).terms.length := claL_mem.2 ⟨by show 0 < 1; omega, by rw [hb, decide_eq_true hc]⟩
      have h2 := claL_len (rndD t0 price sh m) 0 c (rndD t0 price sh m).terms.length
      have h3 := List.length_pos_of_mem h1
      have h4 : (rndD t0 price sh m).terms.length = 1 := rfl
      omega
    · rw [decide_eq_false hc, Bool.false_and]
  · rw [clm_bit hO, hb, Nat.testBit_two_pow_sub_one]
theorem rnd_owe : oweE (rndD t0 price sh m) 0 = 0 ∧ oweV (rndD t0 price sh m) 0 = (comV t0 price m, comV t0 price m) := by
  have hO := rnd_ok h0 hp hm hs
  obtain ⟨e1, e2⟩ := owe_ok hO (g := 0) (by show 0 < 1; omega)
  obtain ⟨b1, b2⟩ := rnd_bits h0 hp hm hs
  refine ⟨e1, ?_⟩
  show oweV _ ((0 : Nat) : Int) = _
  unfold oweV
  rw [if_pos e1]
  show (sumI [-0, comV t0 price (pc (surN _ ((0 : Nat) : Int) 0) : Nat)], sumI [-0, comV t0 price (pc (clm _ ((0 : Nat) : Int) 0) : Nat)]) = _
  rw [show surN (rndD t0 price sh m) ((0 : Nat) : Int) 0 = 2 ^ m - 1 from b1, show clm (rndD t0 price sh m) ((0 : Nat) : Int) 0 = 2 ^ m - 1 from b2, ones_pc m hm, sumI_cons, sumI_cons]
  show (-0 + (_ + 0), -0 + (_ + 0)) = _
  rw [Int.neg_zero, Int.zero_add, Int.add_zero]
/-- What each part gets; all together is what the cards cost. -/
theorem rnd_get : let P := (m : Int) * price - comV t0 price m
    0 ≤ comV t0 price m ∧ 0 ≤ P ∧ P ≤ 12582912 ∧ sumI (splitL P sh) = P ∧ (splitL P sh).length = sh.length ∧
    ∀ part, part < sh.length → getE (rndD t0 price sh m) 0 part = 0 ∧ getV (rndD t0 price sh m) 0 part = ((splitL P sh).getD part 0, (splitL P sh).getD part 0) := by
  have hO := rnd_ok h0 hp hm hs
  intro P
  obtain ⟨c1, c2⟩ := comV_bd (price := price) (many := m) h0 (by omega) hp.1
  have hmp : (m : Int) * price ≤ 12 * 1048576 := Int.mul_le_mul (by omega) hp.2 hp.1 (by omega)
  refine ⟨c1, by show 0 ≤ (m : Int) * price - _; omega, by show (m : Int) * price - _ ≤ _; omega, split_sum hs, by unfold splitL; rw [List.length_map, List.length_range], fun part hpt => ?_⟩
  obtain ⟨t, ht⟩ := List.exists_mem_of_ne_nil _ (truL_ne hO 0)
  have he := (get_span hO (k := 0) (part := part) ht (by show 0 < 1; omega) hpt).1
  refine ⟨he, ?_⟩
  show getV _ ((0 : Nat) : Int) _ = _
  unfold getV
  rw [if_pos he]
  show (loL ((reachL _ 0).map _), hiL ((reachL _ 0).map _)) = _
  have hg : getF (rndD t0 price sh m) 0 part (m, 0, 0, 0) = (splitL P sh).getD part 0 := by
    unfold getF poolV
    rw [show priceN (rndD t0 price sh m) 0 = price from rfl, rnd_tot h0 hp hm hs, show sharesN (rndD t0 price sh m) 0 = sh from rfl, Int.toNat_natCast]
    show (splitL (((m : Int) + 0 + 0 + 0) * price - _) sh).getD _ _ = _
    rw [Int.add_zero, Int.add_zero, Int.add_zero]
  rw [(rnd_reach h0 hp hm hs _).1, (rnd_reach h0 hp hm hs _).2]
  rw [show getF (rndD t0 price sh m) ((0 : Nat) : Int) ((part : Nat) : Int) (m, 0, 0, 0) = getF (rndD t0 price sh m) 0 part (m, 0, 0, 0) from rfl, hg]
/-- More cards have no less a commission. -/
theorem rnd_more {k : Nat} (h : k ≤ m) : comV t0 price k ≤ comV t0 price m := by
  have hO := rnd_ok h0 hp hm hs
  exact com_le (d := rndD t0 price sh m) hO (g := 0) (k := 0) (by show 0 < 1; omega) (by show 0 < 1; omega) h
end
end Go.RoyM

namespace Go.Proofs.YtccpgpnekoncoaaGreat
open Go Go.Sy Go.RoyM
theorem k25 (n l h : Int) (w : World) : Calls Tryz.prog 25 #[.int .i64 n, .int .i64 l, .int .i64 h] w (Ret fun v w' => v = .bool (inI n l h) ∧ Ext [] w w') := by
  refine calls_of Tryz.func25 rfl rfl (fun a hf => ?_)
  have hh := Hp.init w []
  refine sy_sq ?_
  refine o_v hf hh (yv_assign rfl) ?_; clear hf a; intro a hf
  refine o_end ?_
  refine sy_sq ?_
  refine o_v hf hh (yv_move rfl) ?_; clear hf a; intro a hf
  refine o_v hf hh (yv_move rfl) ?_; clear hf a; intro a hf
  refine o_v hf hh (yv_bin rfl rfl rfl) ?_; clear hf a; intro a hf
  refine o_v hf hh (yv_move rfl) ?_; clear hf a; intro a hf
  refine guard_split hf (t := 10) rfl (fun hg2 => ?_) (fun hg2 => ?_)
  ·have hG2 := hg2; try simp only [gS] at hG2
   refine o_v hf hh (yv_move rfl) ?_; clear hf a; intro a hf
   refine o_v hf hh (yv_move rfl) ?_; clear hf a; intro a hf
   refine o_v hf hh (yv_bin rfl rfl rfl) ?_; clear hf a; intro a hf
   refine o_v hf hh (y_pt rfl rfl) ?_; clear hf a; intro a hf
   refine o_v hf hh (yv_assign rfl) ?_; clear hf a; intro a hf
   refine o_end ?_
   refine sy_ret ?_
   refine ret_r hf rfl rfl ?_
   unfold inI
   first
     | (rw [decide_eq_true (show l ≤ n by omega), Bool.true_and]; exact ⟨rfl, hh.ext⟩)
     | (rw [decide_eq_false (show ¬ l ≤ n by omega), Bool.false_and]; exact ⟨rfl, hh.ext⟩)
  ·have hG2 := hg2; try simp only [gS] at hG2
   refine o_off hf ?_; clear hf a; intro a hf
   refine o_off hf ?_; clear hf a; intro a hf
   refine o_off hf ?_; clear hf a; intro a hf
   refine o_v hf hh (y_pf rfl rfl) ?_; clear hf a; intro a hf
   refine o_v hf hh (yv_assign rfl) ?_; clear hf a; intro a hf
   refine o_end ?_
   refine sy_ret ?_
   refine ret_r hf rfl rfl ?_
   unfold inI
   first
     | (rw [decide_eq_true (show l ≤ n by omega), Bool.true_and]; exact ⟨rfl, hh.ext⟩)
     | (rw [decide_eq_false (show ¬ l ≤ n by omega), Bool.false_and]; exact ⟨rfl, hh.ext⟩)
theorem termB_inW (t : TermD) : termB t = ((inI t.f 0 100 && inI t.b 0 100) && inI t.u 0 12) := by
  unfold termB inI
  simp only [Bool.and_assoc]
theorem all_takeR {l : List Int} {i : Nat} {x : Int} {f : Int → Bool} (h : (l.take i).all f = true) (hx : l[i]? = some x) (hf : f x = true) : (l.take (i + 1)).all f = true := by
  rw [List.take_add_one, hx, List.all_append, h]
  simp [hf]
theorem all_noR {l : List Int} {i : Nat} {x : Int} {f : Int → Bool} (hx : l[i]? = some x) (hf : f x = false) : l.all f = false := by
  rw [List.all_eq_false]
  exact ⟨x, List.mem_of_getElem? hx, by rw [hf]; decide⟩
theorem k7 (t : TermD) (w : World) : Calls Tryz.prog 7 #[tmV t] w (Ret fun v w' => v = .bool (termB t) ∧ Ext [] w w') := by
  refine calls_of Tryz.func7 rfl rfl (fun a hf => ?_)
  have hh := Hp.init w []
  rw [termB_inW]
  refine sy_sq ?_
  refine o_box hf hh ?_; clear hf hh a; intro B1 a w hf hh
  refine o_v hf hh (yv_assign rfl) ?_; clear hf a; intro a hf
  refine o_end ?_
  refine sy_sq ?_
  refine o_v hf hh (yv_fieldAddr Tryz.fo_27_0 rfl) ?_; clear hf a; intro a hf
  refine o_v hf hh (y_ld Tryz.sc_3 rfl) ?_; clear hf a; intro a hf
  refine o_call hf Tryz.en_25 rfl rfl rfl (k25 _ _ _ _) ?_; clear hf a; intro v a w hR hf
  obtain ⟨rfl, hx⟩ := hR; replace hh := hh.more hx; clear hx
  refine o_v hf hh (yv_move rfl) ?_; clear hf a; intro a hf
  refine guard_split hf (t := 6) rfl (fun hg2 => ?_) (fun hg2 => ?_)
  ·have hG2 := hg2; try simp only [gS] at hG2
   refine o_v hf hh (yv_fieldAddr Tryz.fo_27_2 rfl) ?_; clear hf a; intro a hf
   refine o_v hf hh (y_ld Tryz.sc_3 rfl) ?_; clear hf a; intro a hf
   refine o_call hf Tryz.en_25 rfl rfl rfl (k25 _ _ _ _) ?_; clear hf a; intro v a w hR hf
   obtain ⟨rfl, hx⟩ := hR; replace hh := hh.more hx; clear hx
   refine o_v hf hh (y_pt rfl rfl) ?_; clear hf a; intro a hf
   refine o_v hf hh (yv_move rfl) ?_; clear hf a; intro a hf
   refine guard_split hf (t := 11) rfl (fun hg4 => ?_) (fun hg4 => ?_)
   ·have hG4 := hg4; try simp only [gS] at hG4
    refine o_v hf hh (yv_fieldAddr Tryz.fo_27_1 rfl) ?_; clear hf a; intro a hf
    refine o_v hf hh (y_ld Tryz.sc_3 rfl) ?_; clear hf a; intro a hf
    refine o_call hf Tryz.en_25 rfl rfl rfl (k25 _ _ _ _) ?_; clear hf a; intro v a w hR hf
    obtain ⟨rfl, hx⟩ := hR; replace hh := hh.more hx; clear hx
    refine o_v hf hh (y_pt rfl rfl) ?_; clear hf a; intro a hf
    refine o_v hf hh (yv_assign rfl) ?_; clear hf a; intro a hf
    refine o_end ?_
    refine sy_ret ?_
    refine ret_r hf rfl rfl ?_
    refine ⟨congrArg Value.bool ?_, hh.ext⟩
    clear hf hh
    first
      | (simp_all; done)
      | (simp only [*, Bool.false_and, Bool.and_false, Bool.true_and, Bool.and_true, Bool.not_true, Bool.not_false]; done)
      | (rw [Bool.eq_iff_iff]; simp_all <;> omega)
   ·have hG4 := hg4; try simp only [gS] at hG4
    refine o_off hf ?_; clear hf a; intro a hf
    refine o_off hf ?_; clear hf a; intro a hf
    refine o_off hf ?_; clear hf a; intro a hf
    refine o_v hf hh (y_pf rfl rfl) ?_; clear hf a; intro a hf
    refine o_v hf hh (yv_assign rfl) ?_; clear hf a; intro a hf
    refine o_end ?_
    refine sy_ret ?_
    refine ret_r hf rfl rfl ?_
    refine ⟨congrArg Value.bool ?_, hh.ext⟩
    clear hf hh
    first
      | (simp_all; done)
      | (simp only [*, Bool.false_and, Bool.and_false, Bool.true_and, Bool.and_true, Bool.not_true, Bool.not_false]; done)
      | (rw [Bool.eq_iff_iff]; simp_all <;> omega)
  ·have hG2 := hg2; try simp only [gS] at hG2
   refine o_off hf ?_; clear hf a; intro a hf
   refine o_off hf ?_; clear hf a; intro a hf
   refine o_off hf ?_; clear hf a; intro a hf
   refine o_v hf hh (y_pf rfl rfl) ?_; clear hf a; intro a hf
   refine o_v hf hh (yv_move rfl) ?_; clear hf a; intro a hf
   refine o_off hf ?_; clear hf a; intro a hf
   refine o_off hf ?_; clear hf a; intro a hf
   refine o_off hf ?_; clear hf a; intro a hf
   refine o_v hf hh (y_pf rfl rfl) ?_; clear hf a; intro a hf
   refine o_v hf hh (yv_assign rfl) ?_; clear hf a; intro a hf
   refine o_end ?_
   refine sy_ret ?_
   refine ret_r hf rfl rfl ?_
   refine ⟨congrArg Value.bool ?_, hh.ext⟩
   clear hf hh
   first
     | (simp_all; done)
     | (simp only [*, Bool.false_and, Bool.and_false, Bool.true_and, Bool.and_true, Bool.not_true, Bool.not_false]; done)
     | (rw [Bool.eq_iff_iff]; simp_all <;> omega)
theorem k6 (l : List Int) (sa : Option Addr) (c0 : Nat) (u : World) (hA : IAt u sa l) (hl : l.length ≤ 1000) : Calls Tryz.prog 6 #[.slice sa l.length c0] u (Ret fun v w' => v = .bool (shB l) ∧ Ext [] u w') := by
  refine calls_of Tryz.func6 rfl rfl (fun a hf => ?_)
  have hh := Hp.init u []
  refine sy_sq ?_
  refine o_v hf hh (yv_assign rfl) ?_; clear hf a; intro a hf
  refine o_end ?_
  refine sy_sq ?_
  refine o_v hf hh (yv_assign rfl) ?_; clear hf a; intro a hf
  refine o_end ?_
  refine sy_seq ?_
  refine sy_sq ?_
  refine o_v hf hh (yv_assign rfl) ?_; clear hf a; intro a hf
  refine o_end ?_
  refine sy_block ?_
  refine sy_loopF (σ := Nat) [2, 3, 4, 5, 6, 7, 8, 9, 10, 11, 12, 13, 14, 15, 16, 17, 18, 19, 20, 21, 22] (fun i => [(3, .int .i64 (sumI (l.take i))), (4, .int .i64 (i : Nat))]) (fun i => i ≤ l.length ∧ (l.take i).all (fun s => inI s 0 1000) = true) (fun i => l.length - i) (0) hf hh ?_ ?_ ?_
  · repeat' (first | exact True.intro | refine And.intro rfl ?_)
  · exact ⟨Nat.zero_le _, rfl⟩
  ·rintro i a w ⟨hi, hT⟩ hf hh
   refine sy_seq ?_
   refine sy_sq ?_
   refine o_v hf hh (yv_move rfl) ?_; clear hf a; intro a hf
   refine o_v hf hh (yv_move rfl) ?_; clear hf a; intro a hf
   refine o_v hf hh (yv_len Tryz.se_28 rfl) ?_; clear hf a; intro a hf
   refine o_v hf hh (yv_bin rfl rfl rfl) ?_; clear hf a; intro a hf
   refine o_end ?_
   refine sy_cond hf rfl (fun hg2 => ?_) (fun hg2 => ?_)
   ·have hG2 := hg2; try simp only [gS] at hG2
    refine sy_skip ?_
    refine then_n ?_
    refine sy_seq ?_
    refine sy_block ?_
    refine sy_seq ?_
    refine sy_seq ?_
    obtain ⟨x, hx⟩ := ex_of (l := l) (i := i) (by omega)
    obtain ⟨blk, off, cc, T, fr, e, hb, hc⟩ := hA i x hx; subst e
    refine sy_ops ?_
    refine o_v hf hh (yv_move rfl) ?_; clear hf a; intro a hf
    refine o_v hf hh (yv_move rfl) ?_; clear hf a; intro a hf
    refine o_v hf hh (y_ix Tryz.se_28 rfl rfl) ?_; clear hf a; intro a hf
    refine o_v hf hh (y_ld Tryz.sc_3 rfl) ?_; clear hf a; intro a hf
    refine o_call hf Tryz.en_25 rfl rfl rfl (k25 _ _ _ _) ?_; clear hf a; intro v a w hR hf
    obtain ⟨rfl, hx⟩ := hR; replace hh := hh.more hx; clear hx
    refine o_v hf hh (yv_not rfl) ?_; clear hf a; intro a hf
    refine o_end ?_
    refine sy_cond hf rfl (fun hg4 => ?_) (fun hg4 => ?_)
    ·have hG4 := hg4; try simp only [gS] at hG4
     refine sy_sq ?_
     refine o_v hf hh (yv_assign rfl) ?_; clear hf a; intro a hf
     refine o_end ?_
     refine sy_ret ?_
     refine then_r ?_
     refine blk_r ?_
     refine then_r ?_
     refine then_r ?_
     refine blk_r ?_
     refine then_r ?_
     refine ret_r hf rfl rfl ?_
     refine ⟨congrArg Value.bool ?_, hh.ext⟩
     unfold shB
     rw [all_noR (f := fun s => inI s 0 1000) hx (by simp_all), Bool.false_and, Bool.and_false]
    ·have hG4 := hg4; try simp only [gS] at hG4
     refine sy_skip ?_
     refine then_n ?_
     have hin : inI x 0 1000 = true := by simp_all
     have hxb := inI_bd hin
     have hs1 := take_bd (b := 1000) (l := l.take i) (fun y hy => by have := inI_bd (List.all_eq_true.1 hT y hy); omega) (by omega) i (by rw [List.length_take]; omega)
     rw [List.take_take, Nat.min_self] at hs1
     refine sy_ops ?_
     refine o_v hf hh (yv_move rfl) ?_; clear hf a; intro a hf
     refine o_v hf hh (yv_move rfl) ?_; clear hf a; intro a hf
     refine o_v hf hh (yv_move rfl) ?_; clear hf a; intro a hf
     refine o_v hf hh (y_ix Tryz.se_28 rfl rfl) ?_; clear hf a; intro a hf
     refine o_v hf hh (y_ld Tryz.sc_3 rfl) ?_; clear hf a; intro a hf
     refine o_v hf hh (y_add rfl rfl) ?_; clear hf a; intro a hf
     refine o_v hf hh (yv_assign rfl) ?_; clear hf a; intro a hf
     refine ops_end ?_
     refine blk_n ?_
     refine then_n ?_
     refine sy_ops ?_
     refine o_v hf hh (yv_move rfl) ?_; clear hf a; intro a hf
     refine o_v hf hh (y_add rfl rfl) ?_; clear hf a; intro a hf
     refine o_v hf hh (yv_assign rfl) ?_; clear hf a; intro a hf
     refine ops_end ?_
     refine then_n ?_
     exact ⟨i + 1, ⟨⟨by omega, all_takeR hT hx (by simp_all)⟩, hf.head ⟨congrArg some (intv (sumI_take hx).symm), rfl, True.intro⟩ (Keep.cons rfl (Keep.cons rfl (Keep.cons rfl (Keep.cons rfl (Keep.cons rfl (Keep.cons rfl (Keep.cons rfl (Keep.cons rfl (Keep.cons rfl (Keep.cons rfl (Keep.cons rfl (Keep.cons rfl (Keep.cons rfl (Keep.cons rfl (Keep.cons rfl (Keep.cons rfl (Keep.cons rfl (Keep.cons rfl (Keep.cons rfl (Keep.cons rfl (Keep.app rfl (Keep.rm rfl Keep.base)))))))))))))))))))))), hh⟩, by omega⟩
   ·have hG2 := hg2; try simp only [gS] at hG2
    refine sy_exit ?_
    refine then_e ?_
    refine then_e ?_
    refine blk_e ?_
    refine then_n ?_
    refine sy_seq ?_
    obtain rfl : i = l.length := by omega
    rw [List.take_length] at hT hf
    refine sy_ops ?_
    refine o_v hf hh (yv_move rfl) ?_; clear hf a; intro a hf
    refine o_v hf hh (yv_len Tryz.se_28 rfl) ?_; clear hf a; intro a hf
    refine o_call hf Tryz.en_25 rfl rfl rfl (k25 _ _ _ _) ?_; clear hf a; intro v a w hR hf
    obtain ⟨rfl, hx⟩ := hR; replace hh := hh.more hx; clear hx
    refine o_v hf hh (yv_move rfl) ?_; clear hf a; intro a hf
    refine guard_split hf (t := 26) rfl (fun hg6 => ?_) (fun hg6 => ?_)
    ·have hG6 := hg6; try simp only [gS] at hG6
     refine o_v hf hh (yv_move rfl) ?_; clear hf a; intro a hf
     refine o_v hf hh (yv_bin rfl rfl rfl) ?_; clear hf a; intro a hf
     refine o_v hf hh (y_pt rfl rfl) ?_; clear hf a; intro a hf
     refine o_v hf hh (yv_assign rfl) ?_; clear hf a; intro a hf
     refine o_end ?_
     refine sy_ret ?_
     refine ret_r hf rfl rfl ?_
     refine ⟨congrArg Value.bool ?_, hh.ext⟩
     unfold shB
     rw [hT, Bool.true_and]
     clear hf hh
     simp_all
    ·have hG6 := hg6; try simp only [gS] at hG6
     refine o_off hf ?_; clear hf a; intro a hf
     refine o_off hf ?_; clear hf a; intro a hf
     refine o_v hf hh (y_pf rfl rfl) ?_; clear hf a; intro a hf
     refine o_v hf hh (yv_assign rfl) ?_; clear hf a; intro a hf
     refine o_end ?_
     refine sy_ret ?_
     refine ret_r hf rfl rfl ?_
     refine ⟨congrArg Value.bool ?_, hh.ext⟩
     unfold shB
     rw [hT, Bool.true_and]
     clear hf hh
     simp_all
end Go.Proofs.YtccpgpnekoncoaaGreat

namespace Go.WalM
open Go Go.Sy
structure TourD where
  dawn : Int
  fr : List (Int × Int)
  ways : List (List (Int × Int))
  stay : List (Int × Int)
  light : List (Int × Int)
abbrev TourD.n (t : TourD) : Nat := t.fr.length
def sp0 (l : List (Int × Int)) (v : Nat) : Int × Int := l.getD v (0, 0)
def okS (s : Int × Int) : Prop := 0 ≤ s.1 ∧ s.1 ≤ s.2 ∧ s.2 ≤ 1440
structure TourOk (t : TourD) : Prop where
  n6 : t.n ≤ 6
  wl : t.ways.length = t.n
  d0 : 0 ≤ t.dawn
  d1 : t.dawn ≤ 1440
  f : ∀ s ∈ t.fr, okS s
  w : ∀ l ∈ t.ways, l.length = t.n ∧ ∀ s ∈ l, okS s
  sl : t.stay.length = t.n
  s : ∀ s ∈ t.stay, okS s
  ll : t.light.length = t.n
  l : ∀ s ∈ t.light, okS s
/-- The way to a view: from another one, or (-1) from the village. -/
def wayV (t : TourD) (fr : Int) (v : Nat) : Int × Int := if fr = -1 then sp0 t.fr v else sp0 (t.ways.getD fr.toNat []) v
def begV (t : TourD) (fr : Int) (v : Nat) (m : Int × Int) : Int × Int := (max (m.1 + (wayV t fr v).1) (sp0 t.light v).1, max (m.2 + (wayV t fr v).2) (sp0 t.light v).1)
def aftV (t : TourD) (v : Nat) (m : Int × Int) : Int × Int := (m.1 + (sp0 t.stay v).1, m.2 + (sp0 t.stay v).2)
/-- The views of an order, and when one begins there. -/
def stpL (t : TourD) : Int → Int × Int → List Nat → List (Nat × (Int × Int))
  | _, _, [] => []
  | fr, m, v :: l => (v, begV t fr v m) :: stpL t v (aftV t v (begV t fr v m)) l
/-- When it is over. -/
def ovrV (t : TourD) : Int → Int × Int → List Nat → Int × Int
  | _, m, [] => m
  | fr, m, v :: l => ovrV t v (aftV t v (begV t fr v m)) l
def surV (t : TourD) (v : Nat) (m : Int × Int) : Bool := decide (m.2 ≤ (sp0 t.light v).2)
def canV (t : TourD) (v : Nat) (m : Int × Int) : Bool := decide (m.1 ≤ (sp0 t.light v).2)
def begL (t : TourD) (l : List Nat) : List (Nat × (Int × Int)) := stpL t (-1) (t.dawn, t.dawn) l
def surB (t : TourD) (l : List Nat) : Bool := (begL t l).all fun p => surV t p.1 p.2
def canB (t : TourD) (l : List Nat) : Bool := (begL t l).all fun p => canV t p.1 p.2
theorem stp_len (t : TourD) : ∀ (l : List Nat) (fr : Int) (m : Int × Int), (stpL t fr m l).length = l.length
  | [], _, _ => rfl
  | v :: l, fr, m => by show (stpL t v _ l).length + 1 = _; rw [stp_len t l]; rfl
/-- An order: views, each at most once. -/
def OrdB (t : TourD) (l : List Nat) : Prop := (∀ v ∈ l, v < t.n) ∧ l.Nodup
/-- Sure from some view on, if one leaves as late as can be. -/
def surF (t : TourD) : Int → Int → List Nat → Prop
  | _, _, [] => True
  | fr, left, v :: l => max (left + (wayV t fr v).2) (sp0 t.light v).1 ≤ (sp0 t.light v).2 ∧ surF t v (max (left + (wayV t fr v).2) (sp0 t.light v).1 + (sp0 t.stay v).2) l
theorem sur_iff (t : TourD) : ∀ (l : List Nat) (fr : Int) (m : Int × Int), ((stpL t fr m l).all fun p => surV t p.1 p.2) = true ↔ surF t fr m.2 l
  | [], _, _ => by simp [stpL, surF]
  | v :: l, fr, m => by
    rw [stpL, List.all_cons, Bool.and_eq_true, sur_iff t l]
    show decide _ = true ∧ _ ↔ _ ∧ _
    rw [decide_eq_true_eq]; rfl
abbrev PlanD := List Nat × Int
/-- The order of lists, as Go's slices.Compare. -/
def cmpI (a b : Int) : Int := if a < b then -1 else if b < a then 1 else 0
def cmpL : List Nat → List Nat → Int
  | [], [] => 0
  | [], _ :: _ => -1
  | _ :: _, [] => 1
  | a :: l, b :: m => if cmpI a b ≠ 0 then cmpI a b else cmpL l m
def betP (a b : PlanD) : Int := if cmpI (-(a.1.length : Int)) (-(b.1.length : Int)) ≠ 0 then cmpI (-(a.1.length : Int)) (-(b.1.length : Int)) else if cmpI a.2 b.2 ≠ 0 then cmpI a.2 b.2 else cmpL a.1 b.1
def leastP (p : PlanD) (l : List PlanD) : PlanD := l.foldl (fun f x => if betP x f < 0 then x else f) p
/-- The best sure order from a view on: views seen (by bits), the view, the minute at which one leaves. -/
def nextP (t : TourD) (rec : Nat → Int → Int → PlanD) (seen : Nat) (fr left : Int) (v : Nat) : Option PlanD :=
  if seen.testBit v then none
  else if surV t v (begV t fr v (left, left)) then
    let p := rec (seen ||| 2 ^ v) v (aftV t v (begV t fr v (left, left))).2
    some (v :: p.1, p.2)
  else none
def bstP (t : TourD) : Nat → Nat → Int → Int → PlanD
  | 0, _, _, left => ([], left)
  | k + 1, seen, fr, left => leastP ([], left) ((List.range t.n).filterMap (nextP t (bstP t k) seen fr left))
def mostP (t : TourD) : PlanD := bstP t (t.n + 1) 0 (-1) t.dawn
theorem least_mem (p : PlanD) : ∀ l : List PlanD, leastP p l = p ∨ leastP p l ∈ l := fun l => by
  unfold leastP
  induction l generalizing p with
  | nil => exact .inl rfl
  | cons x l ih =>
    rw [List.foldl_cons]
    rcases ih (if betP x p < 0 then x else p) with h | h
    · rw [h]
      split
      · exact .inr (.head _)
      · exact .inl rfl
    · exact .inr (.tail _ h)
theorem bet_len {a b : PlanD} (h : betP a b < 0) : b.1.length ≤ a.1.length := by
  unfold betP cmpI at h
  refine Decidable.byContradiction fun hn => ?_
  rw [if_neg (show ¬ -(a.1.length : Int) < -(b.1.length : Int) by omega), if_pos (show -(b.1.length : Int) < -(a.1.length : Int) by omega), if_pos (by decide)] at h
  exact absurd h (by decide)
theorem bet_not {a b : PlanD} (h : ¬ betP a b < 0) : a.1.length ≤ b.1.length := by
  refine Decidable.byContradiction fun hn => h ?_
  unfold betP cmpI
  rw [if_pos (show -(a.1.length : Int) < -(b.1.length : Int) by omega), if_pos (by decide)]
  decide
theorem least_len (p : PlanD) (l : List PlanD) : p.1.length ≤ (leastP p l).1.length ∧ ∀ x ∈ l, x.1.length ≤ (leastP p l).1.length := by
  unfold leastP
  induction l generalizing p with
  | nil => exact ⟨Nat.le_refl _, fun x h => by cases h⟩
  | cons x l ih =>
    rw [List.foldl_cons]
    obtain ⟨h1, h2⟩ := ih (if betP x p < 0 then x else p)
    have h3 : p.1.length ≤ (if betP x p < 0 then x else p).1.length ∧ x.1.length ≤ (if betP x p < 0 then x else p).1.length := by
      split
      · rename_i h; exact ⟨bet_len h, Nat.le_refl _⟩
      · rename_i h; exact ⟨Nat.le_refl _, bet_not h⟩
    refine ⟨Nat.le_trans h3.1 h1, fun y hy => ?_⟩
    rcases List.mem_cons.1 hy with rfl | hy
    · exact Nat.le_trans h3.2 h1
    · exact h2 y hy
theorem bit_or {s v i : Nat} : (s ||| 2 ^ v).testBit i = (s.testBit i || decide (v = i)) := by
  rw [Nat.testBit_or, Nat.testBit_two_pow]
/-- What the best order is made of. -/
theorem bst_ord (t : TourD) : ∀ (k seen : Nat) (fr left : Int), (∀ v ∈ (bstP t k seen fr left).1, v < t.n ∧ seen.testBit v = false) ∧ (bstP t k seen fr left).1.Nodup
  | 0, _, _, _ => ⟨fun v h => (nomatch h), List.nodup_nil⟩
  | k + 1, seen, fr, left => by
    rw [bstP]
    rcases least_mem ([], left) ((List.range t.n).filterMap (nextP t (bstP t k) seen fr left)) with h | h
    · rw [h]; exact ⟨fun v h => (nomatch h), List.nodup_nil⟩
    · obtain ⟨Y, hY⟩ : ∃ Y, Y = leastP ([], left) ((List.range t.n).filterMap (nextP t (bstP t k) seen fr left)) := ⟨_, rfl⟩
      rw [← hY] at h ⊢
      obtain ⟨v, hv, he⟩ := List.mem_filterMap.1 h
      have hv := List.mem_range.1 hv
      unfold nextP at he
      split at he
      · cases he
      · rename_i hs
        split at he
        · injection he with he
          rw [← he]
          obtain ⟨h1, h2⟩ := bst_ord t k (seen ||| 2 ^ v) v (aftV t v (begV t fr v (left, left))).2
          refine ⟨fun x hx => ?_, List.nodup_cons.2 ⟨fun hx => ?_, h2⟩⟩
          · rcases List.mem_cons.1 hx with rfl | hx
            · exact ⟨hv, by simpa using hs⟩
            · have h3 := h1 x hx
              rw [bit_or, Bool.or_eq_false_iff] at h3
              exact ⟨h3.1, h3.2.1⟩
          · have h3 := (h1 v hx).2
            rw [bit_or] at h3
            simp at h3
        · cases he
/-- No sure order has more views. -/
theorem bst_most (t : TourD) : ∀ (k seen : Nat) (fr left : Int) (l : List Nat), l.length ≤ k → (∀ v ∈ l, v < t.n ∧ seen.testBit v = false) → l.Nodup → surF t fr left l → l.length ≤ (bstP t k seen fr left).1.length
  | _, _, _, _, [], _, _, _, _ => Nat.zero_le _
  | 0, _, _, _, v :: l, hk, _, _, _ => absurd hk (Nat.not_succ_le_zero _)
  | k + 1, seen, fr, left, v :: l, hk, hl, hd, hs => by
    obtain ⟨hd1, hd2⟩ := List.nodup_cons.1 hd
    obtain ⟨hv, hb⟩ := hl v (.head _)
    have ih := bst_most t k (seen ||| 2 ^ v) v (aftV t v (begV t fr v (left, left))).2 l (Nat.le_of_succ_le_succ hk) (fun x hx => ⟨(hl x (.tail _ hx)).1, by
      rw [bit_or, (hl x (.tail _ hx)).2, Bool.false_or, decide_eq_false_iff_not]
      rintro rfl; exact hd1 hx⟩) hd2 hs.2
    rw [bstP]
    refine Nat.le_trans (Nat.succ_le_succ ih) ((least_len ([], left) _).2 (v :: (bstP t k (seen ||| 2 ^ v) v (aftV t v (begV t fr v (left, left))).2).1, (bstP t k (seen ||| 2 ^ v) v (aftV t v (begV t fr v (left, left))).2).2) (List.mem_filterMap.2 ⟨v, List.mem_range.2 hv, ?_⟩))
    unfold nextP
    rw [if_neg (by rw [hb]; decide), if_pos (show surV t v (begV t fr v (left, left)) = true from decide_eq_true hs.1)]
theorem most_ord (t : TourD) : OrdB t (mostP t).1 := ⟨fun v h => ((bst_ord t _ _ _ _).1 v h).1, (bst_ord t _ _ _ _).2⟩
theorem nodup_le {n : Nat} {l : List Nat} (h : ∀ v ∈ l, v < n) (hd : l.Nodup) : l.length ≤ n := by
  have := List.Nodup.length_le_of_subset hd (l₂ := List.range n) (fun v hv => List.mem_range.2 (h v hv))
  simpa using this
theorem most_all (t : TourD) {l : List Nat} (h : OrdB t l) (hs : surB t l = true) : l.length ≤ (mostP t).1.length := by
  have := nodup_le h.1 h.2
  exact bst_most t (t.n + 1) 0 (-1) t.dawn l (by omega) (fun v hv => ⟨h.1 v hv, Nat.zero_testBit v⟩) h.2 ((sur_iff t l (-1) (t.dawn, t.dawn)).1 hs)
end Go.WalM

namespace Go.WalM
open Go Go.Sy
section
variable {s : Int × Int} {ps : List (Int × Int)} {dawn : Int}
end
end Go.WalM

namespace Go.WalM
open Go Go.Sy
theorem len_ofW {α : Type} {l : List α} {i : Nat} {s : α} (h : l[i]? = some s) : i < l.length := (List.getElem?_eq_some_iff.1 h).1
theorem ex_ofW {α : Type} {l : List α} {i : Nat} (h : i < l.length) : ∃ s, l[i]? = some s := ⟨l[i], by simp [h]⟩
abbrev swV (p : Int × Int) : Value := .agg #[.int .i64 p.1, .int .i64 p.2]
abbrev swC (p : Int × Int) : List Value := [.int .i64 p.1, .int .i64 p.2]
/-- Spans lie in memory. -/
def SpAt (w : World) (sa : Option Addr) (l : List (Int × Int)) : Prop :=
  ∀ i s, l[i]? = some s → ∃ blk off c T fr, sa = some ⟨blk, off, none⟩ ∧ w.heap[blk]? = some (.cells c T fr) ∧ cellsAt c (off + ((i : Nat) : Int).toNat * 2) 2 = some (swC s)
theorem SpAt.ext {w w' : World} {sa : Option Addr} {l : List (Int × Int)} (h : SpAt w sa l) (e : Ext [] w w') : SpAt w' sa l := fun i s hi =>
  let ⟨blk, off, c, T, fr, h1, h2, h3⟩ := h i s hi
  ⟨blk, off, c, T, fr, h1, e.get h2, h3⟩
/-- Numbers of views lie in memory. -/
def VwAt (w : World) (sa : Option Addr) (l : List Int) : Prop :=
  ∀ i x, l[i]? = some x → ∃ blk off c T fr, sa = some ⟨blk, off, none⟩ ∧ w.heap[blk]? = some (.cells c T fr) ∧ c[off + ((i : Nat) : Int).toNat * 1]? = some (.int .i64 x)
theorem VwAt.ext {w w' : World} {sa : Option Addr} {l : List Int} (h : VwAt w sa l) (e : Ext [] w w') : VwAt w' sa l := fun i s hi =>
  let ⟨blk, off, c, T, fr, h1, h2, h3⟩ := h i s hi
  ⟨blk, off, c, T, fr, h1, e.get h2, h3⟩
/-- Lists of spans, each with where it lies: its address and its room. -/
abbrev RowD := List (Int × Int) × Option Addr × Nat
abbrev rowV (r : RowD) : Value := .slice r.2.1 r.1.length r.2.2
def RowsAt (w : World) (sa : Option Addr) (l : List RowD) : Prop :=
  ∀ i r, l[i]? = some r → ∃ blk off c T fr, sa = some ⟨blk, off, none⟩ ∧ w.heap[blk]? = some (.cells c T fr) ∧ c[off + ((i : Nat) : Int).toNat * 1]? = some (rowV r)
theorem RowsAt.ext {w w' : World} {sa : Option Addr} {l : List RowD} (h : RowsAt w sa l) (e : Ext [] w w') : RowsAt w' sa l := fun i s hi =>
  let ⟨blk, off, c, T, fr, h1, h2, h3⟩ := h i s hi
  ⟨blk, off, c, T, fr, h1, e.get h2, h3⟩
/-- Where a tour lies. -/
structure TPl where
  (sf sw ss sl : Option Addr)
  (cf cw cs cl : Nat)
  rows : List RowD
abbrev touC (t : TourD) (p : TPl) : Array Value := #[.int .i64 t.dawn, .slice p.sf t.fr.length p.cf, .slice p.sw t.ways.length p.cw, .slice p.ss t.stay.length p.cs, .slice p.sl t.light.length p.cl]
structure TouAt (w : World) (t : TourD) (p : TPl) : Prop where
  f : SpAt w p.sf t.fr
  g : RowsAt w p.sw p.rows
  r : ∀ r ∈ p.rows, SpAt w r.2.1 r.1
  e : p.rows.map Prod.fst = t.ways
  s : SpAt w p.ss t.stay
  l : SpAt w p.sl t.light
  nf : t.fr.length ≤ 4000000000
  nw : t.ways.length ≤ 4000000000
  ns : t.stay.length ≤ 4000000000
  nl : t.light.length ≤ 4000000000
  nr : ∀ r ∈ p.rows, r.1.length ≤ 4000000000
theorem TouAt.ext {w w' : World} {t : TourD} {p : TPl} (h : TouAt w t p) (e : Ext [] w w') : TouAt w' t p :=
  ⟨h.f.ext e, h.g.ext e, fun r hr => (h.r r hr).ext e, h.e, h.s.ext e, h.l.ext e, h.nf, h.nw, h.ns, h.nl, h.nr⟩
/-- Valid spans and tours. -/
def inW (n lo hi : Int) : Bool := decide (lo ≤ n) && decide (n ≤ hi)
def okB (s : Int × Int) : Bool := !(decide (s.1 < 0) || decide (s.1 > s.2) || decide (s.2 > 1440))
def spsB (n : Int) (l : List (Int × Int)) : Bool := decide ((l.length : Int) = n) && l.all okB
def touB (t : TourD) : Bool := decide ((t.fr.length : Int) ≤ 6) && decide (t.ways.length = t.fr.length) && inW t.dawn 0 1440 && (t.ways ++ [t.fr, t.stay, t.light]).all (spsB t.fr.length)
theorem okB_iff {s : Int × Int} : okB s = true ↔ okS s := by
  unfold okB okS
  simp only [Bool.not_eq_true', Bool.or_eq_false_iff, decide_eq_false_iff_not]
  omega
theorem spsB_iff {n : Nat} {l : List (Int × Int)} : spsB n l = true ↔ l.length = n ∧ ∀ s ∈ l, okS s := by
  unfold spsB
  rw [Bool.and_eq_true, decide_eq_true_eq, List.all_eq_true]
  refine ⟨fun h => ⟨by have := h.1; omega, fun s hs => okB_iff.1 (h.2 s hs)⟩, fun h => ⟨by have := h.1; omega, fun s hs => okB_iff.2 (h.2 s hs)⟩⟩
theorem touB_iff {t : TourD} : touB t = true ↔ TourOk t := by
  unfold touB inW
  simp only [Bool.and_eq_true, decide_eq_true_eq, List.all_append, List.all_cons, List.all_nil, Bool.and_true, spsB_iff]
  constructor
  · rintro ⟨⟨⟨h1, h2⟩, h3, h4⟩, h5, h6, h7, h8⟩
    exact ⟨by show t.fr.length ≤ 6; omega, h2, h3, h4, h6.2, fun l hl => spsB_iff.1 (List.all_eq_true.1 h5 l hl), h7.1, h7.2, h8.1, h8.2⟩
  · intro h
    have h1 : t.fr.length ≤ 6 := h.n6
    exact ⟨⟨⟨by omega, h.wl⟩, h.d0, h.d1⟩, List.all_eq_true.2 fun l hl => spsB_iff.2 (h.w l hl), ⟨True.intro, h.f⟩, ⟨h.sl, h.s⟩, ⟨h.ll, h.l⟩⟩
/-- The first that is not valid; -1: none. -/
def fbdW {α : Type} (ok : α → Bool) : List α → Nat → Int
  | [], _ => -1
  | m :: l, i => if ok m = true then fbdW ok l (i + 1) else i
theorem fbdW_all {α : Type} (ok : α → Bool) : ∀ (l : List α) (i : Nat), decide (0 ≤ fbdW ok l i) = !l.all ok
  | [], i => by simp [fbdW]
  | m :: l, i => by
    cases h : ok m
    · simp [fbdW, h]
    · simp [fbdW, h, fbdW_all ok l (i + 1)]
theorem fbdW_drop {α : Type} {ok : α → Bool} {l : List α} {i : Nat} {m : α} (h : l[i]? = some m) : fbdW ok (l.drop i) i = if ok m = true then fbdW ok (l.drop (i + 1)) (i + 1) else i := by
  rw [List.drop_eq_getElem_cons (len_ofW h)]
  have : l[i]'(len_ofW h) = m := (List.getElem?_eq_some_iff.1 h).2
  rw [this]; rfl
end Go.WalM

namespace Go.Proofs.YtccpgpnekoncoaaGreat
open Go Go.Sy Go.WalM
/-- The panic of what cannot be told. -/
abbrev misW (e : Int) : List PanicEntry := [{ v := .iface 133 (.agg #[.int .i64 e]), recovered := false }]
theorem k67 (b : Bool) (e : Int) (u : World) : Calls Tryz.prog 67 #[.bool b, .int .i64 e] u (RetX (fun v w' => b = true ∧ Ext [] u w') (fun ch w' => b = false ∧ ch = misW e ∧ Ext [] u w')) := by
  refine calls_ofX Tryz.func67 rfl rfl (fun a hf => ?_)
  have hh := Hp.init u []
  refine sy_sq ?_
  refine o_v hf hh (yv_move rfl) ?_; clear hf a; intro a hf
  refine o_v hf hh (yv_not rfl) ?_; clear hf a; intro a hf
  refine o_end ?_
  refine sy_cond hf rfl (fun hg2 => ?_) (fun hg2 => ?_)
  ·have hG2 := hg2; try simp only [gS] at hG2
   refine sy_ops ?_
   refine o_v hf hh (yv_move rfl) ?_; clear hf a; intro a hf
   refine o_v hf hh (yv_buildS Tryz.bs_133 rfl rfl) ?_; clear hf a; intro a hf
   refine o_v hf hh (yv_makeIface (by kernel_rfl) rfl) ?_; clear hf a; intro a hf
   refine o_panic hf fun hf => ?_
   refine pan_x hf ?_
   exact ⟨by simp_all, rfl, hh.ext⟩
  ·have hG2 := hg2; try simp only [gS] at hG2
   refine sy_skip ?_
   refine ret_xn ?_
   refine ret_n hf rfl rfl ?_
   exact ⟨by simp_all, hh.ext⟩
theorem k101 (n l h : Int) (w : World) : Calls Tryz.prog 101 #[.int .i64 n, .int .i64 l, .int .i64 h] w (Ret fun v w' => v = .bool (inW n l h) ∧ Ext [] w w') := by
  refine calls_of Tryz.func101 rfl rfl (fun a hf => ?_)
  have hh := Hp.init w []
  refine sy_sq ?_
  refine o_v hf hh (yv_assign rfl) ?_; clear hf a; intro a hf
  refine o_end ?_
  refine sy_sq ?_
  refine o_v hf hh (yv_move rfl) ?_; clear hf a; intro a hf
  refine o_v hf hh (yv_move rfl) ?_; clear hf a; intro a hf
  refine o_v hf hh (yv_bin rfl rfl rfl) ?_; clear hf a; intro a hf
  refine o_v hf hh (yv_move rfl) ?_; clear hf a; intro a hf
  refine guard_split hf (t := 10) rfl (fun hg2 => ?_) (fun hg2 => ?_)
  ·have hG2 := hg2; try simp only [gS] at hG2
   refine o_v hf hh (yv_move rfl) ?_; clear hf a; intro a hf
   refine o_v hf hh (yv_move rfl) ?_; clear hf a; intro a hf
   refine o_v hf hh (yv_bin rfl rfl rfl) ?_; clear hf a; intro a hf
   refine o_v hf hh (y_pt rfl rfl) ?_; clear hf a; intro a hf
   refine o_v hf hh (yv_assign rfl) ?_; clear hf a; intro a hf
   refine o_end ?_
   refine sy_ret ?_
   refine ret_r hf rfl rfl ?_
   unfold inW
   first
     | (rw [decide_eq_true (show l ≤ n by omega), Bool.true_and]; exact ⟨rfl, hh.ext⟩)
     | (rw [decide_eq_false (show ¬ l ≤ n by omega), Bool.false_and]; exact ⟨rfl, hh.ext⟩)
  ·have hG2 := hg2; try simp only [gS] at hG2
   refine o_off hf ?_; clear hf a; intro a hf
   refine o_off hf ?_; clear hf a; intro a hf
   refine o_off hf ?_; clear hf a; intro a hf
   refine o_v hf hh (y_pf rfl rfl) ?_; clear hf a; intro a hf
   refine o_v hf hh (yv_assign rfl) ?_; clear hf a; intro a hf
   refine o_end ?_
   refine sy_ret ?_
   refine ret_r hf rfl rfl ?_
   unfold inW
   first
     | (rw [decide_eq_true (show l ≤ n by omega), Bool.true_and]; exact ⟨rfl, hh.ext⟩)
     | (rw [decide_eq_false (show ¬ l ≤ n by omega), Bool.false_and]; exact ⟨rfl, hh.ext⟩)
theorem k29n (Be : Nat) (u : World) : Calls Tryz.prog 29 #[.nilIface, ptr Be 0] u (Ret fun v w' => Ext [] u w') := by
  refine calls_of Tryz.func29 rfl rfl (fun a hf => ?_)
  have hh := Hp.init u []
  refine sy_seq ?_
  refine sy_sq ?_
  refine o_v hf hh (yv_move rfl) ?_; clear hf a; intro a hf
  refine o_v hf hh (yv_isNil (by kernel_rfl) rfl rfl) ?_; clear hf a; intro a hf
  refine o_end ?_
  refine c_t hf ?_
  refine sy_ret ?_
  refine then_r ?_
  refine ret_r hf rfl rfl ?_
  exact hh.ext
theorem k29s (Be : Nat) (e x : Int) (u : World) (hb : u.heap[Be]? = some (.cells #[.int .i64 x] 34 (0, 0))) : Calls Tryz.prog 29 #[.iface 133 (.agg #[.int .i64 e]), ptr Be 0] u (Ret fun v w' => Hp u [Be] [(Be, .cells #[.int .i64 e] 34)] w') := by
  refine calls_of Tryz.func29 rfl rfl (fun a hf => ?_)
  have hh := Hp.init1 hb
  refine sy_seq ?_
  refine sy_sq ?_
  refine o_v hf hh (yv_move rfl) ?_; clear hf a; intro a hf
  refine o_v hf hh (yv_notNil (by kernel_rfl) rfl rfl) ?_; clear hf a; intro a hf
  refine o_end ?_
  refine c_f hf ?_
  refine sy_skip ?_
  refine then_n ?_
  refine sy_sq ?_
  refine o_v hf hh (yv_move rfl) ?_; clear hf a; intro a hf
  refine o_v hf hh (yv_assert (by kernel_rfl) rfl) ?_; clear hf a; intro a hf
  refine o_v hf hh (yv_move rfl) ?_; clear hf a; intro a hf
  refine o_v hf hh (yv_extract rfl rfl) ?_; clear hf a; intro a hf
  refine o_v hf hh (yv_extract rfl rfl) ?_; clear hf a; intro a hf
  refine o_alloc hf hh Tryz.ze_133 ?_; clear hf hh a; intro B4 a w hf hh
  refine o_store hf hh Tryz.sz_133 fun w hh => ?_
  refine o_v hf hh (yv_assign rfl) ?_; clear hf a; intro a hf
  refine o_end ?_
  refine sy_seq ?_
  refine sy_sq ?_
  refine o_v hf hh (yv_move rfl) ?_; clear hf a; intro a hf
  refine o_v hf hh (yv_not rfl) ?_; clear hf a; intro a hf
  refine o_end ?_
  refine c_f hf ?_
  refine sy_skip ?_
  refine then_n ?_
  refine sy_ops ?_
  refine o_v hf hh (yv_move rfl) ?_; clear hf a; intro a hf
  refine o_v hf hh (yv_fieldAddr Tryz.fo_133_0 rfl) ?_; clear hf a; intro a hf
  refine o_v hf hh (y_ld Tryz.sc_34 rfl) ?_; clear hf a; intro a hf
  refine o_v hf hh (yv_nilCheck rfl) ?_; clear hf a; intro a hf
  refine o_store hf hh Tryz.sz_34 fun w hh => ?_
  refine ops_end ?_
  refine ret_n hf rfl rfl ?_
  exact hh.less (.cons _ (.cons_cons _ (.refl _)))
theorem kd28r (Be : Nat) (w : World) : CallsDIn (FR none) 0 Tryz.prog 28 #[ptr Be 0] .returning w (fun e u' w' => (∃ v, e = .returned v) ∧ u' = .returning ∧ Ext [] w w') := by
  refine callsDIn_of_wpSIn Tryz.func28 rfl trivial fun c₀ cs hu => ?_
  refine wpSIn_recover (v := .nilIface) (cs' := c₀ :: cs) rfl rfl (.inr ⟨by simp [recoverD, hu], rfl, rfl⟩) ?_
  have hf := (Fr.enter [ptr Be 0] Tryz.f28.ntmps (Nat.le_of_ble_eq_true rfl)).put (d := 1) (blt_lt rfl) .nilIface
  refine o_call hf Tryz.en_29 rfl rfl rfl (k29n Be w) ?_; clear hf; intro v a w' hR hf
  refine ops_end ?_
  exact ends_s hf rfl (frame_same hu) ⟨⟨_, rfl⟩, rfl, hR⟩
theorem kd28p (Be : Nat) (e x : Int) (w : World) (hb : w.heap[Be]? = some (.cells #[.int .i64 x] 34 (0, 0))) : CallsDIn (FR none) 0 Tryz.prog 28 #[ptr Be 0] (.panicking (misW e)) w (fun e' u' w' => (∃ v, e' = .returned v) ∧ u' = .panicking [{ v := .iface 133 (.agg #[.int .i64 e]), recovered := true }] ∧ Hp w [Be] [(Be, .cells #[.int .i64 e] 34)] w') := by
  refine callsDIn_of_wpSIn Tryz.func28 rfl trivial fun c₀ cs hu => ?_
  refine wpSIn_recover (v := .iface 133 (.agg #[.int .i64 e])) (cs' := { c₀ with mode := .panicking [{ v := .iface 133 (.agg #[.int .i64 e]), recovered := true }] } :: cs) rfl rfl (.inl (by simp [recoverD, hu])) ?_
  have hf := (Fr.enter [ptr Be 0] Tryz.f28.ntmps (Nat.le_of_ble_eq_true rfl)).put (d := 1) (blt_lt rfl) (.iface 133 (.agg #[.int .i64 e]))
  refine o_call hf Tryz.en_29 rfl rfl rfl (k29s Be e x w hb) ?_; clear hf; intro v a w' hR hf
  refine ops_end ?_
  exact ends_s hf rfl rfl ⟨⟨_, rfl⟩, rfl, hR⟩
theorem kd36r (Be : Nat) (w : World) : CallsDIn (FR none) 0 Tryz.prog 36 #[ptr Be 0] .returning w (fun e u' w' => (∃ v, e = .returned v) ∧ u' = .returning ∧ Ext [] w w') := by
  refine callsDIn_of_wpSIn Tryz.func36 rfl trivial fun c₀ cs hu => ?_
  refine wpSIn_recover (v := .nilIface) (cs' := c₀ :: cs) rfl rfl (.inr ⟨by simp [recoverD, hu], rfl, rfl⟩) ?_
  have hf := (Fr.enter [ptr Be 0] Tryz.f36.ntmps (Nat.le_of_ble_eq_true rfl)).put (d := 1) (blt_lt rfl) .nilIface
  refine o_call hf Tryz.en_29 rfl rfl rfl (k29n Be w) ?_; clear hf; intro v a w' hR hf
  refine ops_end ?_
  exact ends_s hf rfl (frame_same hu) ⟨⟨_, rfl⟩, rfl, hR⟩
end Go.Proofs.YtccpgpnekoncoaaGreat

namespace Go.Proofs.YtccpgpnekoncoaaGreat
open Go Go.Sy Go.WalM
theorem k158 (ok : Int × Int → Bool) (l : List (Int × Int)) (sa : Option Addr) (n c0 : Nat) (f : Nat) (fcs : Array Value) (u : World) (hM : SpAt u sa l) (hn : n = l.length) (hl : l.length ≤ 8000000000) (hE : Enters Tryz.prog f) (hcall : ∀ (x : Int × Int), x ∈ l → ∀ (w1 : World), Ext [] u w1 → Calls Tryz.prog f (#[] ++ [swV x].toArray ++ fcs) w1 (Ret fun v w'' => v = .bool (!ok x) ∧ Ext [] w1 w'')) : Calls Tryz.prog 158 #[.slice sa n c0, .func (.func f) #[] fcs] u (Ret fun v w' => v = .int .i64 (fbdW ok l 0) ∧ Ext [] u w') := by
  subst hn
  refine calls_of Tryz.func158 rfl rfl (fun a hf => ?_)
  have hh := Hp.init u []
  refine sy_sq ?_
  refine o_v hf hh (yv_assign rfl) ?_; clear hf a; intro a hf
  refine o_end ?_
  refine sy_seq ?_
  refine sy_sq ?_
  refine o_v hf hh (yv_move rfl) ?_; clear hf a; intro a hf
  refine o_v hf hh (yv_len Tryz.se_22 rfl) ?_; clear hf a; intro a hf
  refine o_v hf hh (yv_move rfl) ?_; clear hf a; intro a hf
  refine o_end ?_
  refine sy_block ?_
  refine sy_loopF (σ := Nat) [4, 5, 8, 9, 10, 11, 12, 13, 14, 15, 16, 17, 18] (fun i => [(8, .int .i64 i)]) (fun i => i ≤ l.length ∧ fbdW ok l 0 = fbdW ok (l.drop i) i) (fun i => l.length - i) (0) hf hh ?_ ?_ ?_
  · repeat' (first | exact True.intro | refine And.intro rfl ?_)
  · exact ⟨Nat.zero_le _, rfl⟩
  ·rintro i a w ⟨hi, hq⟩ hf hh
   refine sy_sq ?_
   refine o_v hf hh (yv_bin rfl rfl rfl) ?_; clear hf a; intro a hf
   refine o_end ?_
   refine sy_seq ?_
   refine sy_cond hf rfl (fun hg2 => ?_) (fun hg2 => ?_)
   ·have hG2 := hg2; try simp only [gS] at hG2
    refine sy_skip ?_
    refine then_n ?_
    refine sy_seq ?_
    refine sy_block ?_
    refine sy_seq ?_
    obtain ⟨m, hm⟩ := ex_ofW (l := l) (i := i) (by omega)
    obtain ⟨blk, off, cc, T, fr, e, hb, hc⟩ := hM i m hm; subst e
    refine sy_ops ?_
    refine o_v hf hh (yv_move rfl) ?_; clear hf a; intro a hf
    refine o_v hf hh (yv_assign rfl) ?_; clear hf a; intro a hf
    refine o_end ?_
    refine sy_sq ?_
    refine o_v hf hh (yv_move rfl) ?_; clear hf a; intro a hf
    refine o_v hf hh (yv_move rfl) ?_; clear hf a; intro a hf
    refine o_v hf hh (yv_move rfl) ?_; clear hf a; intro a hf
    refine o_v hf hh (y_ix Tryz.se_22 rfl rfl) ?_; clear hf a; intro a hf
    refine o_v hf hh (y_lds Tryz.ag_49 rfl) ?_; clear hf a; intro a hf
    refine o_call hf hE rfl rfl rfl (hcall m (List.mem_of_getElem? hm) _ hh.ext) ?_; clear hf a; intro v a w hR hf
    obtain ⟨rfl, hx⟩ := hR; replace hh := hh.more hx; clear hx
    refine o_end ?_
    refine sy_cond hf rfl (fun hg4 => ?_) (fun hg4 => ?_)
    ·have hG4 := hg4; try simp only [gS] at hG4
     refine sy_sq ?_
     refine o_v hf hh (yv_move rfl) ?_; clear hf a; intro a hf
     refine o_v hf hh (yv_assign rfl) ?_; clear hf a; intro a hf
     refine o_end ?_
     refine sy_ret ?_
     refine blk_r ?_
     refine then_r ?_
     refine then_r ?_
     refine blk_r ?_
     refine then_r ?_
     refine ret_r hf rfl rfl ?_
     exact ⟨congrArg (Value.int .i64) (by rw [hq, fbdW_drop hm, if_neg (by simp_all)]), hh.ext⟩
    ·have hG4 := hg4; try simp only [gS] at hG4
     refine sy_skip ?_
     refine blk_n ?_
     refine then_n ?_
     refine sy_ops ?_
     refine o_v hf hh (y_add rfl rfl) ?_; clear hf a; intro a hf
     refine o_v hf hh (yv_move rfl) ?_; clear hf a; intro a hf
     refine ops_end ?_
     refine then_n ?_
     refine ⟨i + 1, ⟨⟨by omega, by rw [hq, fbdW_drop hm, if_pos (by simp_all)]⟩, (hf.head (by repeat' (first | exact True.intro | refine And.intro rfl ?_)) (Keep.cons rfl (Keep.cons rfl (Keep.cons rfl (Keep.cons rfl (Keep.cons rfl (Keep.cons rfl (Keep.cons rfl (Keep.cons rfl (Keep.cons rfl (Keep.cons rfl (Keep.cons rfl (Keep.app rfl (Keep.rm rfl Keep.base)))))))))))))), hh⟩, by omega⟩
   ·have hG2 := hg2; try simp only [gS] at hG2
    refine sy_exit ?_
    refine then_e ?_
    refine then_e ?_
    refine blk_e ?_
    refine then_n ?_
    refine sy_sq ?_
    refine o_v hf hh (yv_assign rfl) ?_; clear hf a; intro a hf
    refine o_end ?_
    refine sy_ret ?_
    refine ret_r hf rfl rfl ?_
    exact ⟨congrArg (Value.int .i64) (by rw [hq, List.drop_eq_nil_of_le (by omega)]; rfl), hh.ext⟩
theorem k136 (ok : Int × Int → Bool) (l : List (Int × Int)) (sa : Option Addr) (n c0 : Nat) (f : Nat) (fcs : Array Value) (u : World) (hM : SpAt u sa l) (hn : n = l.length) (hl : l.length ≤ 8000000000) (hE : Enters Tryz.prog f) (hcall : ∀ (x : Int × Int), x ∈ l → ∀ (w1 : World), Ext [] u w1 → Calls Tryz.prog f (#[] ++ [swV x].toArray ++ fcs) w1 (Ret fun v w'' => v = .bool (!ok x) ∧ Ext [] w1 w'')) : Calls Tryz.prog 136 #[.slice sa n c0, .func (.func f) #[] fcs] u (Ret fun v w' => v = .bool (!l.all ok) ∧ Ext [] u w') := by
  refine calls_of Tryz.func136 rfl rfl (fun a hf => ?_)
  have hh := Hp.init u []
  refine sy_sq ?_
  refine o_v hf hh (yv_assign rfl) ?_; clear hf a; intro a hf
  refine o_end ?_
  refine sy_sq ?_
  refine o_v hf hh (yv_move rfl) ?_; clear hf a; intro a hf
  refine o_v hf hh (yv_move rfl) ?_; clear hf a; intro a hf
  refine o_call hf Tryz.en_158 rfl rfl rfl (k158 ok l sa n c0 f fcs _ (hM.ext hh.ext) hn hl hE (fun x hx w1 e => hcall x hx w1 (hh.ext.trans e))) ?_; clear hf a; intro v a w hR hf
  obtain ⟨rfl, hx⟩ := hR; replace hh := hh.more hx; clear hx
  refine o_v hf hh (yv_bin rfl rfl rfl) ?_; clear hf a; intro a hf
  refine o_v hf hh (yv_assign rfl) ?_; clear hf a; intro a hf
  refine o_end ?_
  refine sy_ret ?_
  refine ret_r hf rfl rfl ?_
  exact ⟨congrArg Value.bool (fbdW_all ok l 0), hh.ext⟩
theorem k137 (ok : RowD → Bool) (l : List (RowD)) (sa : Option Addr) (n c0 : Nat) (f : Nat) (fcs : Array Value) (u : World) (hM : RowsAt u sa l) (hn : n = l.length) (hl : l.length ≤ 8000000000) (hE : Enters Tryz.prog f) (hcall : ∀ (x : RowD), x ∈ l → ∀ (w1 : World), Ext [] u w1 → Calls Tryz.prog f (#[] ++ [rowV x].toArray ++ fcs) w1 (Ret fun v w'' => v = .bool (!ok x) ∧ Ext [] w1 w'')) : Calls Tryz.prog 137 #[.slice sa n c0, .func (.func f) #[] fcs] u (Ret fun v w' => v = .int .i64 (fbdW ok l 0) ∧ Ext [] u w') := by
  subst hn
  refine calls_of Tryz.func137 rfl rfl (fun a hf => ?_)
  have hh := Hp.init u []
  refine sy_sq ?_
  refine o_v hf hh (yv_assign rfl) ?_; clear hf a; intro a hf
  refine o_end ?_
  refine sy_seq ?_
  refine sy_sq ?_
  refine o_v hf hh (yv_move rfl) ?_; clear hf a; intro a hf
  refine o_v hf hh (yv_len Tryz.se_23 rfl) ?_; clear hf a; intro a hf
  refine o_v hf hh (yv_move rfl) ?_; clear hf a; intro a hf
  refine o_end ?_
  refine sy_block ?_
  refine sy_loopF (σ := Nat) [4, 5, 8, 9, 10, 11, 12, 13, 14, 15, 16, 17, 18] (fun i => [(8, .int .i64 i)]) (fun i => i ≤ l.length ∧ fbdW ok l 0 = fbdW ok (l.drop i) i) (fun i => l.length - i) (0) hf hh ?_ ?_ ?_
  · repeat' (first | exact True.intro | refine And.intro rfl ?_)
  · exact ⟨Nat.zero_le _, rfl⟩
  ·rintro i a w ⟨hi, hq⟩ hf hh
   refine sy_sq ?_
   refine o_v hf hh (yv_bin rfl rfl rfl) ?_; clear hf a; intro a hf
   refine o_end ?_
   refine sy_seq ?_
   refine sy_cond hf rfl (fun hg2 => ?_) (fun hg2 => ?_)
   ·have hG2 := hg2; try simp only [gS] at hG2
    refine sy_skip ?_
    refine then_n ?_
    refine sy_seq ?_
    refine sy_block ?_
    refine sy_seq ?_
    obtain ⟨m, hm⟩ := ex_ofW (l := l) (i := i) (by omega)
    obtain ⟨blk, off, cc, T, fr, e, hb, hc⟩ := hM i m hm; subst e
    refine sy_ops ?_
    refine o_v hf hh (yv_move rfl) ?_; clear hf a; intro a hf
    refine o_v hf hh (yv_assign rfl) ?_; clear hf a; intro a hf
    refine o_end ?_
    refine sy_sq ?_
    refine o_v hf hh (yv_move rfl) ?_; clear hf a; intro a hf
    refine o_v hf hh (yv_move rfl) ?_; clear hf a; intro a hf
    refine o_v hf hh (yv_move rfl) ?_; clear hf a; intro a hf
    refine o_v hf hh (y_ix Tryz.se_23 rfl rfl) ?_; clear hf a; intro a hf
    refine o_v hf hh (y_ld Tryz.sc_22 rfl) ?_; clear hf a; intro a hf
    refine o_call hf hE rfl rfl rfl (hcall m (List.mem_of_getElem? hm) _ hh.ext) ?_; clear hf a; intro v a w hR hf
    obtain ⟨rfl, hx⟩ := hR; replace hh := hh.more hx; clear hx
    refine o_end ?_
    refine sy_cond hf rfl (fun hg4 => ?_) (fun hg4 => ?_)
    ·have hG4 := hg4; try simp only [gS] at hG4
     refine sy_sq ?_
     refine o_v hf hh (yv_move rfl) ?_; clear hf a; intro a hf
     refine o_v hf hh (yv_assign rfl) ?_; clear hf a; intro a hf
     refine o_end ?_
     refine sy_ret ?_
     refine blk_r ?_
     refine then_r ?_
     refine then_r ?_
     refine blk_r ?_
     refine then_r ?_
     refine ret_r hf rfl rfl ?_
     exact ⟨congrArg (Value.int .i64) (by rw [hq, fbdW_drop hm, if_neg (by simp_all)]), hh.ext⟩
    ·have hG4 := hg4; try simp only [gS] at hG4
     refine sy_skip ?_
     refine blk_n ?_
     refine then_n ?_
     refine sy_ops ?_
     refine o_v hf hh (y_add rfl rfl) ?_; clear hf a; intro a hf
     refine o_v hf hh (yv_move rfl) ?_; clear hf a; intro a hf
     refine ops_end ?_
     refine then_n ?_
     refine ⟨i + 1, ⟨⟨by omega, by rw [hq, fbdW_drop hm, if_pos (by simp_all)]⟩, (hf.head (by repeat' (first | exact True.intro | refine And.intro rfl ?_)) (Keep.cons rfl (Keep.cons rfl (Keep.cons rfl (Keep.cons rfl (Keep.cons rfl (Keep.cons rfl (Keep.cons rfl (Keep.cons rfl (Keep.cons rfl (Keep.cons rfl (Keep.cons rfl (Keep.app rfl (Keep.rm rfl Keep.base)))))))))))))), hh⟩, by omega⟩
   ·have hG2 := hg2; try simp only [gS] at hG2
    refine sy_exit ?_
    refine then_e ?_
    refine then_e ?_
    refine blk_e ?_
    refine then_n ?_
    refine sy_sq ?_
    refine o_v hf hh (yv_assign rfl) ?_; clear hf a; intro a hf
    refine o_end ?_
    refine sy_ret ?_
    refine ret_r hf rfl rfl ?_
    exact ⟨congrArg (Value.int .i64) (by rw [hq, List.drop_eq_nil_of_le (by omega)]; rfl), hh.ext⟩
theorem k102 (ok : RowD → Bool) (l : List (RowD)) (sa : Option Addr) (n c0 : Nat) (f : Nat) (fcs : Array Value) (u : World) (hM : RowsAt u sa l) (hn : n = l.length) (hl : l.length ≤ 8000000000) (hE : Enters Tryz.prog f) (hcall : ∀ (x : RowD), x ∈ l → ∀ (w1 : World), Ext [] u w1 → Calls Tryz.prog f (#[] ++ [rowV x].toArray ++ fcs) w1 (Ret fun v w'' => v = .bool (!ok x) ∧ Ext [] w1 w'')) : Calls Tryz.prog 102 #[.slice sa n c0, .func (.func f) #[] fcs] u (Ret fun v w' => v = .bool (!l.all ok) ∧ Ext [] u w') := by
  refine calls_of Tryz.func102 rfl rfl (fun a hf => ?_)
  have hh := Hp.init u []
  refine sy_sq ?_
  refine o_v hf hh (yv_assign rfl) ?_; clear hf a; intro a hf
  refine o_end ?_
  refine sy_sq ?_
  refine o_v hf hh (yv_move rfl) ?_; clear hf a; intro a hf
  refine o_v hf hh (yv_move rfl) ?_; clear hf a; intro a hf
  refine o_call hf Tryz.en_137 rfl rfl rfl (k137 ok l sa n c0 f fcs _ (hM.ext hh.ext) hn hl hE (fun x hx w1 e => hcall x hx w1 (hh.ext.trans e))) ?_; clear hf a; intro v a w hR hf
  obtain ⟨rfl, hx⟩ := hR; replace hh := hh.more hx; clear hx
  refine o_v hf hh (yv_bin rfl rfl rfl) ?_; clear hf a; intro a hf
  refine o_v hf hh (yv_assign rfl) ?_; clear hf a; intro a hf
  refine o_end ?_
  refine sy_ret ?_
  refine ret_r hf rfl rfl ?_
  exact ⟨congrArg Value.bool (fbdW_all ok l 0), hh.ext⟩
theorem k135 (s : Int × Int) (w : World) : Calls Tryz.prog 135 #[swV s] w (Ret fun v w' => v = .bool (!okB s) ∧ Ext [] w w') := by
  refine calls_of Tryz.func135 rfl rfl (fun a hf => ?_)
  have hh := Hp.init w []
  unfold okB
  refine sy_sq ?_
  refine o_box hf hh ?_; clear hf hh a; intro B1 a w hf hh
  refine o_v hf hh (yv_assign rfl) ?_; clear hf a; intro a hf
  refine o_end ?_
  refine sy_sq ?_
  refine o_v hf hh (yv_fieldAddr Tryz.fo_49_0 rfl) ?_; clear hf a; intro a hf
  refine o_v hf hh (y_ld Tryz.sc_3 rfl) ?_; clear hf a; intro a hf
  refine o_v hf hh (yv_bin rfl rfl rfl) ?_; clear hf a; intro a hf
  refine o_v hf hh (yv_move rfl) ?_; clear hf a; intro a hf
  refine guard_split hf (t := 6) rfl (fun hg2 => ?_) (fun hg2 => ?_)
  ·have hG2 := hg2; try simp only [gS] at hG2
   refine o_off hf ?_; clear hf a; intro a hf
   refine o_off hf ?_; clear hf a; intro a hf
   refine o_off hf ?_; clear hf a; intro a hf
   refine o_off hf ?_; clear hf a; intro a hf
   refine o_off hf ?_; clear hf a; intro a hf
   refine o_v hf hh (y_pt rfl rfl) ?_; clear hf a; intro a hf
   refine o_v hf hh (yv_move rfl) ?_; clear hf a; intro a hf
   refine o_off hf ?_; clear hf a; intro a hf
   refine o_off hf ?_; clear hf a; intro a hf
   refine o_off hf ?_; clear hf a; intro a hf
   refine o_v hf hh (y_pt rfl rfl) ?_; clear hf a; intro a hf
   refine o_v hf hh (yv_assign rfl) ?_; clear hf a; intro a hf
   refine o_end ?_
   refine sy_ret ?_
   refine ret_r hf rfl rfl ?_
   refine ⟨congrArg Value.bool ?_, hh.ext⟩
   clear hf hh
   first
     | (simp_all; done)
     | (simp only [*, Bool.false_and, Bool.and_false, Bool.true_and, Bool.and_true, Bool.not_true, Bool.not_false]; done)
     | (rw [Bool.eq_iff_iff]; simp_all <;> omega)
  ·have hG2 := hg2; try simp only [gS] at hG2
   refine o_v hf hh (yv_fieldAddr Tryz.fo_49_0 rfl) ?_; clear hf a; intro a hf
   refine o_v hf hh (y_ld Tryz.sc_3 rfl) ?_; clear hf a; intro a hf
   refine o_v hf hh (yv_fieldAddr Tryz.fo_49_1 rfl) ?_; clear hf a; intro a hf
   refine o_v hf hh (y_ld Tryz.sc_3 rfl) ?_; clear hf a; intro a hf
   refine o_v hf hh (yv_bin rfl rfl rfl) ?_; clear hf a; intro a hf
   refine o_v hf hh (y_pf rfl rfl) ?_; clear hf a; intro a hf
   refine o_v hf hh (yv_move rfl) ?_; clear hf a; intro a hf
   refine guard_split hf (t := 13) rfl (fun hg4 => ?_) (fun hg4 => ?_)
   ·have hG4 := hg4; try simp only [gS] at hG4
    refine o_off hf ?_; clear hf a; intro a hf
    refine o_off hf ?_; clear hf a; intro a hf
    refine o_off hf ?_; clear hf a; intro a hf
    refine o_v hf hh (y_pt rfl rfl) ?_; clear hf a; intro a hf
    refine o_v hf hh (yv_assign rfl) ?_; clear hf a; intro a hf
    refine o_end ?_
    refine sy_ret ?_
    refine ret_r hf rfl rfl ?_
    refine ⟨congrArg Value.bool ?_, hh.ext⟩
    clear hf hh
    first
      | (simp_all; done)
      | (simp only [*, Bool.false_and, Bool.and_false, Bool.true_and, Bool.and_true, Bool.not_true, Bool.not_false]; done)
      | (rw [Bool.eq_iff_iff]; simp_all <;> omega)
   ·have hG4 := hg4; try simp only [gS] at hG4
    refine o_v hf hh (yv_fieldAddr Tryz.fo_49_1 rfl) ?_; clear hf a; intro a hf
    refine o_v hf hh (y_ld Tryz.sc_3 rfl) ?_; clear hf a; intro a hf
    refine o_v hf hh (yv_bin rfl rfl rfl) ?_; clear hf a; intro a hf
    refine o_v hf hh (y_pf rfl rfl) ?_; clear hf a; intro a hf
    refine o_v hf hh (yv_assign rfl) ?_; clear hf a; intro a hf
    refine o_end ?_
    refine sy_ret ?_
    refine ret_r hf rfl rfl ?_
    refine ⟨congrArg Value.bool ?_, hh.ext⟩
    clear hf hh
    first
      | (simp_all; done)
      | (simp only [*, Bool.false_and, Bool.and_false, Bool.true_and, Bool.and_true, Bool.not_true, Bool.not_false]; done)
      | (rw [Bool.eq_iff_iff]; simp_all <;> omega)
theorem k100 (l : List (Int × Int)) (sa : Option Addr) (c0 : Nat) (n : Int) (u : World) (hA : SpAt u sa l) (hl : l.length ≤ 4000000000) : Calls Tryz.prog 100 #[.slice sa l.length c0, .int .i64 n] u (Ret fun v w' => v = .bool (spsB n l) ∧ Ext [] u w') := by
  refine calls_of Tryz.func100 rfl rfl (fun a hf => ?_)
  have hh := Hp.init u []
  unfold spsB
  refine sy_sq ?_
  refine o_v hf hh (yv_assign rfl) ?_; clear hf a; intro a hf
  refine o_end ?_
  refine sy_sq ?_
  refine o_v hf hh (yv_assign rfl) ?_; clear hf a; intro a hf
  refine o_end ?_
  refine sy_sq ?_
  refine o_v hf hh (yv_move rfl) ?_; clear hf a; intro a hf
  refine o_v hf hh (yv_len Tryz.se_22 rfl) ?_; clear hf a; intro a hf
  refine o_v hf hh (yv_move rfl) ?_; clear hf a; intro a hf
  refine o_v hf hh (yv_bin rfl rfl rfl) ?_; clear hf a; intro a hf
  refine o_v hf hh (yv_move rfl) ?_; clear hf a; intro a hf
  refine guard_split hf (t := 10) rfl (fun hg2 => ?_) (fun hg2 => ?_)
  ·have hG2 := hg2; try simp only [gS] at hG2
   refine o_v hf hh (yv_move rfl) ?_; clear hf a; intro a hf
   refine o_v hf hh (yv_move rfl) ?_; clear hf a; intro a hf
   refine o_call hf Tryz.en_136 rfl rfl rfl (k136 okB l sa _ c0 135 #[] _ (hA.ext hh.ext) rfl (by omega) Tryz.en_135 (fun x _ w1 _ => k135 x w1)) ?_; clear hf a; intro v a w hR hf
   obtain ⟨rfl, hx⟩ := hR; replace hh := hh.more hx; clear hx
   refine o_v hf hh (yv_not rfl) ?_; clear hf a; intro a hf
   refine o_v hf hh (y_pt rfl rfl) ?_; clear hf a; intro a hf
   refine o_v hf hh (yv_assign rfl) ?_; clear hf a; intro a hf
   refine o_end ?_
   refine sy_ret ?_
   refine ret_r hf rfl rfl ?_
   refine ⟨congrArg Value.bool ?_, hh.ext⟩
   clear hf hh
   first
     | (simp_all; done)
     | (simp only [*, Bool.false_and, Bool.and_false, Bool.true_and, Bool.and_true, Bool.not_true, Bool.not_false]; done)
     | (rw [Bool.eq_iff_iff]; simp_all <;> omega)
  ·have hG2 := hg2; try simp only [gS] at hG2
   refine o_off hf ?_; clear hf a; intro a hf
   refine o_off hf ?_; clear hf a; intro a hf
   refine o_off hf ?_; clear hf a; intro a hf
   refine o_off hf ?_; clear hf a; intro a hf
   refine o_v hf hh (y_pf rfl rfl) ?_; clear hf a; intro a hf
   refine o_v hf hh (yv_assign rfl) ?_; clear hf a; intro a hf
   refine o_end ?_
   refine sy_ret ?_
   refine ret_r hf rfl rfl ?_
   refine ⟨congrArg Value.bool ?_, hh.ext⟩
   clear hf hh
   first
     | (simp_all; done)
     | (simp only [*, Bool.false_and, Bool.and_false, Bool.true_and, Bool.and_true, Bool.not_true, Bool.not_false]; done)
     | (rw [Bool.eq_iff_iff]; simp_all <;> omega)
theorem k99 (r : RowD) (n : Int) (Bn : Nat) (u : World) (hA : SpAt u r.2.1 r.1) (hl : r.1.length ≤ 4000000000) (hB : u.heap[Bn]? = some (.cells #[.int .i64 n] 3 (0, 0))) : Calls Tryz.prog 99 #[rowV r, ptr Bn 0] u (Ret fun v w' => v = .bool (!spsB n r.1) ∧ Ext [] u w') := by
  refine calls_of Tryz.func99 rfl rfl (fun a hf => ?_)
  have hh := Hp.init u []
  refine sy_sq ?_
  refine o_v hf hh (yv_assign rfl) ?_; clear hf a; intro a hf
  refine o_end ?_
  refine sy_sq ?_
  refine o_v hf hh (yv_move rfl) ?_; clear hf a; intro a hf
  refine o_v hf hh (y_ld Tryz.sc_3 rfl) ?_; clear hf a; intro a hf
  refine o_call hf Tryz.en_100 rfl rfl rfl (k100 r.1 r.2.1 r.2.2 n _ (hA.ext hh.ext) hl) ?_; clear hf a; intro v a w hR hf
  obtain ⟨rfl, hx⟩ := hR; replace hh := hh.more hx; clear hx
  refine o_v hf hh (yv_not rfl) ?_; clear hf a; intro a hf
  refine o_v hf hh (yv_assign rfl) ?_; clear hf a; intro a hf
  refine o_end ?_
  refine sy_ret ?_
  refine ret_r hf rfl rfl ?_
  exact ⟨rfl, hh.ext⟩
end Go.Proofs.YtccpgpnekoncoaaGreat

namespace Go.WalM
open Go Go.Sy
def rvs (l : List RowD) : List Value := l.map fun r => rowV r
theorem rvs_len (l : List RowD) : (rvs l).length = l.length * 1 := by unfold rvs; rw [List.length_map, Nat.mul_one]
theorem rvs_one (l : List RowD) : (rvs l).all (·.oneCell') = true := by
  unfold rvs
  rw [List.all_map]
  exact List.all_eq_true.2 fun r _ => rfl
theorem rows_vals {w : World} {sa : Option Addr} {l : List RowD} (h : RowsAt w sa l) : ValsIn w sa (rvs l) := by
  cases l with
  | nil => exact .inl rfl
  | cons r l =>
    obtain ⟨blk, off, c, T, fr, h1, h2, h3⟩ := h 0 r rfl
    refine .inr ⟨blk, off, c, T, fr, h1, h2, fun j v hv => ?_⟩
    unfold rvs at hv
    rw [List.getElem?_map, Option.map_eq_some_iff] at hv
    obtain ⟨x, hx, rfl⟩ := hv
    obtain ⟨blk', off', c', T', fr', g1, g2, g3⟩ := h j x hx
    rw [h1] at g1
    cases g1
    rw [h2] at g2
    cases g2
    rw [Int.toNat_natCast, Nat.mul_one] at g3
    exact g3
theorem own_rows {e : Nat} {v : Value} {m : Nat} {l : List RowD} {X : List (Nat × Obj)} {w : World} (h : OwnSl e 1 v m (rvs l) X) (hX : ∀ q ∈ X, w.heap[q.1]? = some q.2) : ∃ oa cap, v = .slice oa l.length cap ∧ RowsAt w oa l := by
  obtain ⟨hl, h⟩ := h
  rw [rvs_len] at hl
  have hm : m = l.length := by omega
  subst hm
  rcases h with ⟨rfl, h0, rfl⟩ | ⟨B, cap, cur, rfl, rfl, h1, h2, h3, h4⟩
  · refine ⟨none, 0, by rw [h0], fun i r hi => ?_⟩
    have := len_ofW hi
    omega
  · refine ⟨_, cap, rfl, fun i r hi => ⟨B, 0, cur, e, _, rfl, hX _ (.head _), ?_⟩⟩
    have hi2 := len_ofW hi
    have : (cur.toList.take (l.length * 1))[i]? = some (rowV r) := by
      rw [h4]; unfold rvs; rw [List.getElem?_map, hi]; rfl
    rw [List.getElem?_take, if_pos (by omega)] at this
    rw [Int.toNat_natCast, Nat.mul_one, Nat.zero_add, ← Array.getElem?_toList]
    exact this
/-- All lists of a tour. -/
def allR (t : TourD) (p : TPl) : List RowD := p.rows ++ [(t.fr, p.sf, p.cf), (t.stay, p.ss, p.cs), (t.light, p.sl, p.cl)]
theorem allR_len {t : TourD} {p : TPl} (h : p.rows.map Prod.fst = t.ways) : (allR t p).length = t.ways.length + 3 := by
  unfold allR
  rw [List.length_append, ← h, List.length_map]; rfl
theorem rows_len {t : TourD} {p : TPl} (h : p.rows.map Prod.fst = t.ways) : p.rows.length = t.ways.length := by rw [← h, List.length_map]
theorem rvs_all (t : TourD) (p : TPl) : rvs (allR t p) = rvs p.rows ++ [.slice p.sf t.fr.length p.cf, .slice p.ss t.stay.length p.cs, .slice p.sl t.light.length p.cl] := by
  unfold rvs allR; rw [List.map_append]; rfl
theorem TouAt.all {w : World} {t : TourD} {p : TPl} (h : TouAt w t p) : ∀ r ∈ allR t p, SpAt w r.2.1 r.1 ∧ r.1.length ≤ 4000000000 := by
  intro r hr
  rcases List.mem_append.1 hr with hr | hr
  · exact ⟨h.r r hr, h.nr r hr⟩
  · simp only [List.mem_cons, List.not_mem_nil, or_false] at hr
    rcases hr with rfl | rfl | rfl
    · exact ⟨h.f, h.nf⟩
    · exact ⟨h.s, h.ns⟩
    · exact ⟨h.l, h.nl⟩
theorem all_rows {t : TourD} {p : TPl} (h : p.rows.map Prod.fst = t.ways) (n : Int) : (t.ways ++ [t.fr, t.stay, t.light]).all (spsB n) = (allR t p).all fun r => spsB n r.1 := by
  unfold allR
  rw [← h, List.all_append, List.all_append, List.all_map]; rfl
end Go.WalM

