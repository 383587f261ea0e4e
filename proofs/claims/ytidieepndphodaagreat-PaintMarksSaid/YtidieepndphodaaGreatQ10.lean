/- Lemmas, in order: Marks in memory, not in blocks that are turned. Plain laws: the longest way, the first one, as the reference finds it. Plain laws: partners in ways, how many ways are left, and the shift of all partners. Ways in memory. Plain laws: sets by bits, as the reference makes them of all ways.. -/
import Derived.Test.YtidieepndphodaaGreatQ9
namespace Go.MatM
open Go Go.Sy Go.Proofs Go.RowKit
def MkOff (w : World) (X : List (Nat × Obj)) (sa : Option Addr) (l : List Mk) : Prop := ∀ i s, l[i]? = some s → ∃ blk off c T fr, sa = some ⟨blk, off, none⟩ ∧ blk ∉ X.map Prod.fst ∧ w.heap[blk]? = some (.cells c T fr) ∧ cellsAt c (off + i * 4) 4 = some (mkC s)
theorem MkOff.mk {w : World} {X : List (Nat × Obj)} {sa : Option Addr} {l : List Mk} (h : MkOff w X sa l) : MkAt w sa l := fun i s hi => by
  obtain ⟨blk, off, c, T, fr, h1, _, h2, h3⟩ := h i s hi
  exact ⟨blk, off, c, T, fr, h1, h2, h3⟩
theorem MkOff.of {w : World} {sa : Option Addr} {l : List Mk} (h : MkAt w sa l) : MkOff w [] sa l := fun i s hi => by
  obtain ⟨blk, off, c, T, fr, h1, h2, h3⟩ := h i s hi
  exact ⟨blk, off, c, T, fr, h1, by simp, h2, h3⟩
theorem MkOff.keep {u w : World} {X X' : List (Nat × Obj)} {sa : Option Addr} {l : List Mk} (h : MkOff u X sa l) (hh : Hp u (X.map Prod.fst) X' w) : MkOff w X' sa l := fun i s hi => by
  obtain ⟨blk, off, c, T, fr, h1, h0, h2, h3⟩ := h i s hi
  have hlt := (Array.getElem?_eq_some_iff.1 h2).1
  refine ⟨blk, off, c, T, fr, h1, fun hx => ?_, by rw [hh.ext.block blk hlt h0]; exact h2, h3⟩
  obtain ⟨p, hp, rfl⟩ := List.mem_map.1 hx
  rcases hh.mine p hp with h4 | h4
  · omega
  · exact h0 h4
theorem encP_1c (l : List Pr) : (encP l).all (·.oneCell') = true := by
  rw [List.all_eq_true]
  intro v hv
  obtain ⟨p, _, hp⟩ := List.mem_flatMap.1 hv
  simp only [List.mem_cons, List.not_mem_nil, or_false] at hp
  rcases hp with rfl | rfl <;> rfl
theorem off_nodup {u w : World} {M : List Nat} {b : Nat} {o : Obj} {X : List (Nat × Obj)} (hh : Hp u M ((b, o) :: X) w) : b ∉ X.map Prod.fst := by
  have h := hh.nodup
  rw [List.map_cons, List.nodup_cons] at h
  exact h.1
end Go.MatM
namespace Go.MatM
open Go Go.Sy Go.Proofs
/-- The longest of some lists, the first one. -/
def bst (b : List Pr) (l : List (List Pr)) : List Pr := l.foldl (fun b c => if b.length < c.length then c else b) b
theorem bst_snoc (b c : List Pr) (l : List (List Pr)) : bst b (l ++ [c]) = if (bst b l).length < c.length then c else bst b l := by
  unfold bst; rw [List.foldl_append]; rfl
theorem bst_of {n : Nat} {g : List Pr} : ∀ (l : List (List Pr)) (b : List Pr), (∀ c ∈ l, c.length ≤ n) → (b.length = n → bst b l = b) ∧ (b.length < n → l.find? (fun c => decide (c.length = n)) = some g → bst b l = g)
  | [], b, _ => ⟨fun _ => rfl, fun _ h => by simp at h⟩
  | c :: l, b, h => by
    have hc := h c (.head _)
    have ih := fun b => bst_of (n := n) (g := g) l b fun x hx => h x (.tail _ hx)
    have e : bst b (c :: l) = bst (if b.length < c.length then c else b) l := rfl
    rw [e]
    constructor
    · intro hb
      rw [if_neg (by omega)]
      exact (ih b).1 hb
    · intro hb hf
      rw [List.find?_cons] at hf
      by_cases hn : c.length = n
      · rw [decide_eq_true hn] at hf
        have e2 : c = g := Option.some.inj hf
        rw [if_pos (by omega), ← e2]
        exact (ih c).1 hn
      · rw [decide_eq_false hn] at hf
        split
        · exact (ih c).2 (by omega) hf
        · exact (ih b).2 hb hf
theorem bst_wys {d : RowsD} (h : opE d true = 0) {c0 : List Pr} {l : List (List Pr)} (hw : wys d = c0 :: l) : bst c0 (wys d) = fewL d := by
  have hi := (opE_zero.1 h).2.2
  have hn := (isD_iff d).1 hi
  have hf : (chs (fitD d) d.l.length d.r.length 0 0).find? (fun c => decide (c.length = mosD d)) = some (fewL d) := by
    unfold fewL; rw [if_pos h]
    exact chF_find (F := fitD d) (L := d.l.length) (R := d.r.length) (f := d.l.length) (i := 0) (k := 0) (by omega) rfl
  have hf2 : (wys d).find? (fun c => decide (c.length = mosD d)) = some (fewL d) := by
    rw [wys_eq, List.find?_filter, ← hf]
    congr 1
    funext c
    rw [Bool.eq_iff_iff]
    simp only [Bool.and_eq_true, decide_eq_true_eq]
    omega
  have hall : ∀ c ∈ wys d, c.length ≤ mosD d := fun c hc => le_mos (mem_wys.1 hc).1
  obtain ⟨h1, h2⟩ := bst_of (n := mosD d) (g := fewL d) (wys d) c0 hall
  have hc0 := hall c0 (by rw [hw]; exact .head _)
  rcases Nat.lt_or_ge c0.length (mosD d) with h3 | h3
  · exact h2 h3 hf2
  · rw [hw, List.find?_cons, decide_eq_true (show c0.length = mosD d by omega)] at hf2
    rw [h1 (by omega)]
    exact Option.some.inj hf2
theorem wys_head {d : RowsD} (h : opE d true = 0) : ∃ c l, wys d = c :: l := by
  have h1 := (opE_zero.1 h).2.2
  have h2 := wys_none d
  match hw : wys d with
  | [] => rw [hw] at h2; have := h2.1 rfl; rw [h1] at this; cases this
  | c :: l => exact ⟨c, l, rfl⟩
theorem wys_long {d : RowsD} (hV : Valid d) : (wys d).length ≤ 1048576 := wysF_len hV [] 0 0
theorem wys_len {d : RowsD} {c : List Pr} (hV : Valid d) (hc : c ∈ wys d) : c.length ≤ 10 := by
  have h1 := le_mos (mem_wys.1 hc).1
  have h2 := (mos_le (fitD d) d.l.length d.r.length 0 0).1
  have := hV.nl
  omega
theorem few_le (d : RowsD) : (fewL d).length ≤ d.l.length := by
  by_cases h : opE d true = 0
  · rw [(fewL_eq h).2]; exact (mosD_le d).1
  · rw [fewL_none h]; exact Nat.zero_le _
theorem fewH_len {d : RowsD} (h : opE d true = 0) : fewH d = ((d.l.length : Nat) : Int) + ((d.r.length : Nat) : Int) - 2 * (((fewL d).length : Nat) : Int) := by
  rw [fewH_eq h, (fewL_eq h).2]; omega
end Go.MatM
namespace Go.MatM
open Go Go.Sy Go.Proofs
/-- With which right mark a left one is a pair in a way; -1: with none. -/
def pN (c : List Pr) (x : Int) : Int := match c.find? (fun p => decide ((p.1 : Int) = x)) with
  | some p => (p.2 : Int)
  | none => -1
theorem pN_nil (x : Int) : pN [] x = -1 := rfl
theorem pN_cons (p : Pr) (c : List Pr) (x : Int) : pN (p :: c) x = if (p.1 : Int) = x then (p.2 : Int) else pN c x := by
  unfold pN
  rw [List.find?_cons]
  by_cases h : (p.1 : Int) = x
  · rw [decide_eq_true h, if_pos h]
  · rw [decide_eq_false h, if_neg h]
theorem pN_none {x : Nat} : ∀ {c : List Pr}, pN c x = -1 ↔ ∀ p ∈ c, p.1 ≠ x
  | [] => by simp [pN_nil]
  | p :: c => by
    rw [pN_cons]
    by_cases h : (p.1 : Int) = (x : Int)
    · rw [if_pos h]
      constructor
      · intro e; omega
      · intro e; exact absurd (by omega : p.1 = x) (e p (.head _))
    · rw [if_neg h, pN_none (c := c)]
      simp only [List.mem_cons, forall_eq_or_imp]
      constructor
      · intro e; exact ⟨by omega, e⟩
      · intro e; exact e.2
theorem pN_mem {F : Nat → Nat → Bool} {L R i0 k0 x k : Nat} {c : List Pr} (hc : Ch F L R i0 k0 c) : pN c x = (k : Int) ↔ (x, k) ∈ c := by
  constructor
  · intro h
    unfold pN at h
    cases hf : c.find? (fun p => decide ((p.1 : Int) = x)) with
    | none => rw [hf] at h; simp only at h; omega
    | some p =>
      rw [hf] at h
      have h1 := List.mem_of_find?_eq_some hf
      have h2 := List.find?_some hf
      simp only [decide_eq_true_eq] at h2
      have e : p = (x, k) := Prod.ext (by omega) (by simp only at h ⊢; omega)
      rw [← e]; exact h1
  · intro h
    unfold pN
    cases hf : c.find? (fun p => decide ((p.1 : Int) = x)) with
    | none =>
      have := List.find?_eq_none.1 hf _ h
      simp at this
    | some p =>
      have h1 := List.mem_of_find?_eq_some hf
      have h2 := List.find?_some hf
      simp only [decide_eq_true_eq] at h2
      have e := Ch_same hc h1 h (by simp only; omega)
      rw [e]
theorem pN_bd {c : List Pr} {x : Nat} : -1 ≤ pN c x := by
  unfold pN
  split <;> omega
theorem left_oW {d : RowsD} {i k : Nat} : (((wys d).countP fun c => decide (pN c i = ((k : Int) - 1)) : Nat) : Int) = oW d i k := by
  rw [wys_eq, List.countP_filter]
  match k with
  | 0 =>
    show _ = hidN d i
    unfold hidN
    rw [wH_eq]
    unfold wH
    congr 1
    refine countP_congr' fun c _ => ?_
    rw [Bool.eq_iff_iff]
    simp only [Bool.and_eq_true, decide_eq_true_eq, List.all_eq_true, Bool.not_eq_true', decide_eq_false_iff_not]
    rw [show (((0 : Nat) : Int) - 1) = -1 by omega, pN_none]
    exact ⟨fun h => ⟨h.2, h.1⟩, fun h => ⟨h.2, h.1⟩⟩
  | k + 1 =>
    show _ = pairN d i k
    rw [pairN_eq]
    unfold wP
    congr 1
    refine countP_congr' fun c hc => ?_
    rw [Bool.eq_iff_iff]
    simp only [Bool.and_eq_true, decide_eq_true_eq]
    rw [show (((k + 1 : Nat) : Int) - 1) = (k : Int) by omega, pN_mem (mem_chs.1 hc)]
    exact ⟨fun h => ⟨h.2, h.1⟩, fun h => ⟨h.2, h.1⟩⟩
/-- What ends tell of a set of numbers. -/
def EndsOf (S : Nat → Prop) (f : Nat → Int × Int) (o : Option (Int × Int)) : Prop := match o with
  | none => ∀ k, ¬ S k
  | some e => (∀ k, S k → e.1 ≤ (f k).1 ∧ (f k).2 ≤ e.2) ∧ (∃ k, S k ∧ (f k).1 = e.1) ∧ ∃ k, S k ∧ (f k).2 = e.2
theorem EndsOf.uniq {S S' : Nat → Prop} {f : Nat → Int × Int} {o o' : Option (Int × Int)} (h : EndsOf S f o) (h' : EndsOf S' f o') (e : ∀ k, S k ↔ S' k) : o = o' := by
  match o, o', h, h' with
  | none, none, _, _ => rfl
  | none, some _, h, h' => obtain ⟨_, ⟨k, hk, _⟩, _⟩ := h'; exact absurd ((e k).2 hk) (h k)
  | some _, none, h, h' => obtain ⟨_, ⟨k, hk, _⟩, _⟩ := h; exact absurd ((e k).1 hk) (h' k)
  | some a, some b, h, h' =>
    obtain ⟨h1, ⟨k1, h2, h3⟩, ⟨k2, h4, h5⟩⟩ := h
    obtain ⟨g1, ⟨m1, g2, g3⟩, ⟨m2, g4, g5⟩⟩ := h'
    have a1 := (h1 m1 ((e _).2 g2)).1
    have a2 := (h1 m2 ((e _).2 g4)).2
    have a3 := (g1 k1 ((e _).1 h2)).1
    have a4 := (g1 k2 ((e _).1 h4)).2
    exact congrArg some (Prod.ext (by omega) (by omega))
theorem EndsOf.add {S S' : Nat → Prop} {f : Nat → Int × Int} {o : Option (Int × Int)} (h : EndsOf S f o) {k : Nat} (e : ∀ j, S' j ↔ S j ∨ j = k) : EndsOf S' f (endsA o (f k)) := by
  match o, h with
  | none, h =>
    refine ⟨fun j hj => ?_, ⟨k, (e k).2 (.inr rfl), rfl⟩, ⟨k, (e k).2 (.inr rfl), rfl⟩⟩
    rcases (e j).1 hj with h1 | h1
    · exact absurd h1 (h j)
    · subst h1; exact ⟨Int.le_refl _, Int.le_refl _⟩
  | some a, h =>
    obtain ⟨h1, ⟨k1, h2, h3⟩, ⟨k2, h4, h5⟩⟩ := h
    refine ⟨fun j hj => ?_, ?_, ?_⟩
    · simp only
      rcases (e j).1 hj with h6 | h6
      · have := h1 j h6; omega
      · subst h6; omega
    · simp only
      by_cases hm : a.1 ≤ (f k).1
      · exact ⟨k1, (e _).2 (.inl h2), by omega⟩
      · exact ⟨k, (e _).2 (.inr rfl), by omega⟩
    · simp only
      by_cases hm : (f k).2 ≤ a.2
      · exact ⟨k2, (e _).2 (.inl h4), by omega⟩
      · exact ⟨k, (e _).2 (.inr rfl), by omega⟩
theorem EndsOf.same {S S' : Nat → Prop} {f : Nat → Int × Int} {o : Option (Int × Int)} (h : EndsOf S f o) (e : ∀ k, S' k ↔ S k) : EndsOf S' f o := by
  have : S' = S := funext fun k => propext (e k)
  rw [this]; exact h
theorem endsF_of {p : Nat → Bool} {f : Nat → Int × Int} : ∀ n, EndsOf (fun k => k < n ∧ p k = true) f (endsF p f n)
  | 0 => fun k h => absurd h.1 (by omega)
  | n + 1 => by
    have ih := endsF_of (p := p) (f := f) n
    rw [endsF_step]
    by_cases h : p n = true
    · rw [if_pos h]
      refine ih.add fun j => ?_
      constructor
      · intro hj
        by_cases e : j = n
        · exact .inr e
        · exact .inl ⟨by omega, hj.2⟩
      · rintro (hj | hj)
        · exact ⟨by omega, hj.2⟩
        · subst hj; exact ⟨by omega, h⟩
    · rw [if_neg h]
      refine ih.same fun j => ?_
      constructor
      · intro hj
        have : j ≠ n := fun e => h (by rw [← e]; exact hj.2)
        exact ⟨by omega, hj.2⟩
      · intro hj; exact ⟨by omega, hj.2⟩
/-- The shift of all partners in some ways. -/
def shW (d : RowsD) (x : Nat) (ws : List (List Pr)) : Option (Int × Int) := ws.foldl (fun o c => if pN c x = -1 then o else endsA o (shiftD d x (pN c x).toNat)) none
theorem shW_snoc {d : RowsD} {x : Nat} {ws : List (List Pr)} {c : List Pr} : shW d x (ws ++ [c]) = if pN c x = -1 then shW d x ws else endsA (shW d x ws) (shiftD d x (pN c x).toNat) := by
  unfold shW; rw [List.foldl_append]; rfl
theorem shW_of {d : RowsD} {x : Nat} (ws : List (List Pr)) : EndsOf (fun k => ∃ c ∈ ws, pN c x = (k : Int)) (shiftD d x) (shW d x ws) := by
  have key : ∀ n, EndsOf (fun k => ∃ c ∈ ws.take n, pN c x = (k : Int)) (shiftD d x) (shW d x (ws.take n)) := by
    intro n
    induction n with
    | zero => intro k; simp
    | succ n ih =>
      rcases Nat.lt_or_ge n ws.length with hn | hn
      · have e : ws.take (n + 1) = ws.take n ++ [ws[n]] := by rw [List.take_add_one, List.getElem?_eq_getElem hn]; rfl
        rw [e, shW_snoc]
        have hb := pN_bd (c := ws[n]) (x := x)
        split
        · rename_i h0
          refine ih.same fun k => ?_
          simp only [List.mem_append, List.mem_singleton]
          constructor
          · rintro ⟨c, hc | hc, h⟩
            · exact ⟨c, hc, h⟩
            · subst hc; omega
          · rintro ⟨c, hc, h⟩; exact ⟨c, .inl hc, h⟩
        · rename_i h0
          refine ih.add fun j => ?_
          simp only [List.mem_append, List.mem_singleton]
          constructor
          · rintro ⟨c, hc | hc, h⟩
            · exact .inl ⟨c, hc, h⟩
            · subst hc; exact .inr (by omega)
          · rintro (⟨c, hc, h⟩ | h)
            · exact ⟨c, .inl hc, h⟩
            · exact ⟨_, .inr rfl, by omega⟩
      · rw [List.take_of_length_le (by omega)] at ih ⊢
        exact ih
  have := key ws.length
  rwa [List.take_of_length_le (Nat.le_refl _)] at this
theorem shW_all {d : RowsD} {x : Nat} (hx : x < d.l.length) : shW d x (wys d) = shiftO d x := by
  refine (shW_of (wys d)).uniq (endsF_of _) fun k => ?_
  rw [canS_bit]
  simp only [Bool.and_eq_true, decide_eq_true_eq]
  constructor
  · rintro ⟨c, hc, h⟩
    obtain ⟨h1, h2⟩ := mem_wys.1 hc
    have hm := (pN_mem h1).1 h
    have hk := ((Ch_iff.1 h1).1 _ hm).2.2.2.1
    exact ⟨hk, hk, (canB_iff hx hk).2 ⟨c, h1, h2, hm⟩⟩
  · rintro ⟨hk, _, h⟩
    obtain ⟨c, h1, h2, hm⟩ := (canB_iff hx hk).1 h
    exact ⟨c, mem_wys.2 ⟨h1, h2⟩, (pN_mem h1).2 hm⟩
end Go.MatM
namespace Go.MatM
open Go Go.Sy Go.Proofs Go.RowKit
def WaysAt (w : World) (oa : Option Addr) (ws : List (List Pr)) : Prop := ∃ hs, ValsAt w oa hs ∧ HdsAt encP List.length w [] hs ws
theorem WaysAt.ext {u w : World} {oa : Option Addr} {ws : List (List Pr)} (h : WaysAt u oa ws) (e : Ext [] u w) : WaysAt w oa ws := by
  obtain ⟨hs, h1, h2⟩ := h
  exact ⟨hs, h1.ext e, h2.ext e⟩
theorem HdsAt.off {α : Type} {enc : α → List Value} {len : α → Nat} {w : World} {X : List (Nat × Obj)} {hs : List Value} {ws : List α} (h : HdsAt enc len w X hs ws) : HdsAt enc len w [] hs ws :=
  ⟨h.1, fun j c hj => by obtain ⟨sb, cb, h1, h2⟩ := h.2 j c hj; exact ⟨sb, cb, h1, ValsOff.of h2.vals⟩⟩
theorem WaysAt.mk {w : World} {n cap : Nat} {oa : Option Addr} {hs : List Value} {X : List (Nat × Obj)} {ws : List (List Pr)} (hO : OwnSl 103 1 (.slice oa n cap) n hs X) (hX : ∀ x ∈ X, w.heap[x.1]? = some x.2) (hD : HdsAt encP List.length w X hs ws) : WaysAt w oa ws :=
  ⟨hs, valsAt_own hO hX, HdsAt.off hD⟩
theorem WaysAt.get {w : World} {oa : Option Addr} {ws : List (List Pr)} (h : WaysAt w oa ws) {i : Nat} {c : List Pr} (hc : ws[i]? = some c) :
    ∃ blk off cs T fr sb cb, oa = some ⟨blk, off, none⟩ ∧ w.heap[blk]? = some (.cells cs T fr) ∧ cs[off + ((i : Nat) : Int).toNat * 1]? = some (.slice sb c.length cb) ∧ ValsAt w sb (encP c) := by
  obtain ⟨hs, h1, h2⟩ := h
  obtain ⟨sb, cb, h3, h4⟩ := h2.2 i c hc
  rcases h1 with h1 | ⟨blk, off, cs, T, fr, e1, h5, h6⟩
  · rw [h1] at h3; simp at h3
  · exact ⟨blk, off, cs, T, fr, sb, cb, e1, h5, by rw [Int.toNat_natCast, Nat.mul_one]; exact h6 i _ h3, h4.vals⟩
end Go.MatM
namespace Go.MatM
open Go Go.Sy Go.Proofs
theorem has_bit (s n : Nat) : decide (((s / 2 ^ n % 2 : Nat) : Int) = 1) = s.testBit n := by
  rw [Nat.testBit_eq_decide_div_mod_eq, decide_eq_decide]; omega
theorem or_pow {s n : Nat} (h : s.testBit n = false) : s ||| 2 ^ n = s + 2 ^ n := by
  have hs : s = 2 ^ (n + 1) * (s / 2 ^ (n + 1)) + s % 2 ^ (n + 1) := (Nat.div_add_mod ..).symm
  have hr : s % 2 ^ (n + 1) < 2 ^ n := by
    have h1 : s % 2 ^ (n + 1) < 2 ^ (n + 1) := Nat.mod_lt _ (Nat.two_pow_pos _)
    have h2 : (s % 2 ^ (n + 1)).testBit n = false := by rw [Nat.testBit_mod_two_pow, h]; simp
    rw [Nat.testBit_eq_decide_div_mod_eq] at h2
    have h3 : s % 2 ^ (n + 1) / 2 ^ n < 2 := by rw [Nat.div_lt_iff_lt_mul (Nat.two_pow_pos _)]; rw [Nat.pow_succ] at h1; omega
    have h4 : s % 2 ^ (n + 1) / 2 ^ n = 0 := by
      simp only [decide_eq_false_iff_not] at h2
      generalize s % 2 ^ (n + 1) / 2 ^ n = y at h2 h3 ⊢
      omega
    exact (Nat.div_eq_zero_iff_lt (Nat.two_pow_pos _)).1 h4
  have e : s + 2 ^ n = 2 ^ (n + 1) * (s / 2 ^ (n + 1)) + (2 ^ n + s % 2 ^ (n + 1)) := by omega
  apply Nat.eq_of_testBit_eq
  intro j
  have hlt : 2 ^ n + s % 2 ^ (n + 1) < 2 ^ (n + 1) := by rw [Nat.pow_succ]; rw [Nat.pow_succ] at hr; omega
  rw [e, Nat.testBit_two_pow_mul_add _ hlt, Nat.testBit_or, Nat.testBit_two_pow]
  by_cases hj : j < n + 1
  · rw [if_pos hj, show 2 ^ n + s % 2 ^ (n + 1) = 2 ^ n ||| s % 2 ^ (n + 1) from by have := Nat.two_pow_add_eq_or_of_lt hr 1; rwa [Nat.mul_one] at this, Nat.testBit_or, Nat.testBit_two_pow, Nat.testBit_mod_two_pow]
    simp only [decide_eq_true hj, Bool.true_and]
    exact Bool.or_comm _ _
  · rw [if_neg hj]
    have : decide (n = j) = false := decide_eq_false (by omega)
    rw [this, Bool.or_false]
    conv => lhs; rw [hs, Nat.testBit_two_pow_mul_add _ (by omega), if_neg hj]
theorem or_same {s n : Nat} (h : s.testBit n = true) : s ||| 2 ^ n = s := by
  apply Nat.eq_of_testBit_eq
  intro j
  rw [Nat.testBit_or, Nat.testBit_two_pow]
  by_cases e : n = j
  · subst e; simp [h]
  · simp [e]
/-- The partners of a left mark in a way, as a set. -/
def orC (x : Nat) (s : Nat) (c : List Pr) : Nat := c.foldl (fun s p => if p.1 = x then s ||| 2 ^ p.2 else s) s
def orW (x : Nat) (ws : List (List Pr)) : Nat := ws.foldl (orC x) 0
theorem orC_snoc (x s : Nat) (c : List Pr) (p : Pr) : orC x s (c ++ [p]) = if p.1 = x then orC x s c ||| 2 ^ p.2 else orC x s c := by unfold orC; rw [List.foldl_append]; rfl
theorem orW_snoc (x : Nat) (ws : List (List Pr)) (c : List Pr) : orW x (ws ++ [c]) = orC x (orW x ws) c := by unfold orW; rw [List.foldl_append]; rfl
theorem orC_bit (x k : Nat) : ∀ (c : List Pr) (s : Nat), (orC x s c).testBit k = (s.testBit k || decide ((x, k) ∈ c))
  | [], s => by simp [orC]
  | p :: c, s => by
    have ih := orC_bit x k c (if p.1 = x then s ||| 2 ^ p.2 else s)
    have e : orC x s (p :: c) = orC x (if p.1 = x then s ||| 2 ^ p.2 else s) c := rfl
    rw [e, ih]
    have hd : decide ((x, k) ∈ p :: c) = (decide ((x, k) = p) || decide ((x, k) ∈ c)) := by rw [Bool.eq_iff_iff]; simp [List.mem_cons]
    rw [hd, ← Bool.or_assoc]
    congr 1
    obtain ⟨a, b⟩ := p
    by_cases h : a = x
    · rw [if_pos h, Nat.testBit_or, Nat.testBit_two_pow]
      congr 1
      rw [decide_eq_decide]
      simp only [Prod.mk.injEq]
      omega
    · rw [if_neg h]
      have : decide ((x, k) = (a, b)) = false := decide_eq_false (fun e => h (congrArg Prod.fst e).symm)
      rw [this, Bool.or_false]
theorem orW_bit (x k : Nat) (ws : List (List Pr)) : ∀ s, (ws.foldl (orC x) s).testBit k = (s.testBit k || decide (∃ c ∈ ws, (x, k) ∈ c)) := by
  induction ws with
  | nil => intro s; simp
  | cons c ws ih =>
    intro s
    rw [List.foldl_cons, ih, orC_bit, Bool.or_assoc]
    congr 1
    rw [Bool.eq_iff_iff]
    simp [List.mem_cons]
theorem orW_all {d : RowsD} {x : Nat} (hx : x < d.l.length) : orW x (wys d) = canS d x := by
  apply Nat.eq_of_testBit_eq
  intro k
  unfold orW
  rw [orW_bit, canS_bit, Nat.zero_testBit, Bool.false_or, Bool.eq_iff_iff]
  simp only [decide_eq_true_eq, Bool.and_eq_true]
  constructor
  · rintro ⟨c, hc, hm⟩
    obtain ⟨h1, h2⟩ := mem_wys.1 hc
    have hk : k < d.r.length := ((Ch_iff.1 h1).1 _ hm).2.2.2.1
    exact ⟨hk, (canB_iff hx hk).2 ⟨c, h1, h2, hm⟩⟩
  · rintro ⟨hk, h⟩
    obtain ⟨c, h1, h2, hm⟩ := (canB_iff hx hk).1 h
    exact ⟨c, mem_wys.2 ⟨h1, h2⟩, hm⟩
theorem orC_lt {x n : Nat} : ∀ {c : List Pr} {s : Nat}, s < 2 ^ n → (∀ p ∈ c, p.2 < n) → orC x s c < 2 ^ n
  | [], _, h, _ => h
  | p :: c, s, h, hc => by
    have e : orC x s (p :: c) = orC x (if p.1 = x then s ||| 2 ^ p.2 else s) c := rfl
    rw [e]
    refine orC_lt ?_ fun q hq => hc q (.tail _ hq)
    split
    · exact Nat.or_lt_two_pow h (Nat.pow_lt_pow_right (by decide) (hc p (.head _)))
    · exact h
/-- The right marks of a way, as a set. -/
def seenC (s : Nat) (c : List Pr) : Nat := c.foldl (fun s p => s ||| 2 ^ p.2) s
theorem seenC_snoc (s : Nat) (c : List Pr) (p : Pr) : seenC s (c ++ [p]) = seenC s c ||| 2 ^ p.2 := by unfold seenC; rw [List.foldl_append]; rfl
theorem seenC_bit (k : Nat) : ∀ (c : List Pr) (s : Nat), (seenC s c).testBit k = (s.testBit k || decide (∃ p ∈ c, p.2 = k))
  | [], s => by simp [seenC]
  | p :: c, s => by
    have ih := seenC_bit k c (s ||| 2 ^ p.2)
    have e : seenC s (p :: c) = seenC (s ||| 2 ^ p.2) c := rfl
    rw [e, ih, Nat.testBit_or, Nat.testBit_two_pow, Bool.or_assoc]
    congr 1
    rw [Bool.eq_iff_iff]
    simp [List.mem_cons]
theorem seenC_lt {n : Nat} : ∀ {c : List Pr} {s : Nat}, s < 2 ^ n → (∀ p ∈ c, p.2 < n) → seenC s c < 2 ^ n
  | [], _, h, _ => h
  | p :: c, s, h, hc => seenC_lt (c := c) (s := s ||| 2 ^ p.2) (Nat.or_lt_two_pow h (Nat.pow_lt_pow_right (by decide) (hc p (.head _)))) fun q hq => hc q (.tail _ hq)
/-- What is added to a set, number by number. -/
def addF (q : Nat → Bool) (s : Nat) : Nat → Nat
  | 0 => s
  | n + 1 => if q n then addF q s n ||| 2 ^ n else addF q s n
theorem addF_bit (q : Nat → Bool) (s k : Nat) : ∀ n, (addF q s n).testBit k = (s.testBit k || (decide (k < n) && q k))
  | 0 => by simp [addF]
  | n + 1 => by
    rw [addF]
    have ih := addF_bit q s k n
    by_cases h : q n = true
    · rw [if_pos h, Nat.testBit_or, Nat.testBit_two_pow, ih, Bool.or_assoc]
      congr 1
      by_cases e : n = k
      · subst e; simp [h]
      · simp only [decide_eq_false e, Bool.or_false]
        congr 1
        rw [decide_eq_decide]; omega
    · rw [if_neg h, ih]
      congr 1
      by_cases e : n = k
      · subst e; simp [show q n = false by simpa using h]
      · congr 1
        rw [decide_eq_decide]; omega
theorem addF_lt {q : Nat → Bool} {s m : Nat} (h : s < 2 ^ m) : ∀ {n}, n ≤ m → addF q s n < 2 ^ m
  | 0, _ => h
  | n + 1, hn => by
    rw [addF]
    split
    · exact Nat.or_lt_two_pow (addF_lt h (by omega)) (Nat.pow_lt_pow_right (by decide) (by omega))
    · exact addF_lt h (by omega)
def hidLW (L : Nat) (ws : List (List Pr)) : Nat := ws.foldl (fun s c => addF (fun i => decide (pN c i = -1)) s L) 0
def hidRW (R : Nat) (ws : List (List Pr)) : Nat := ws.foldl (fun s c => addF (fun k => !(seenC 0 c).testBit k) s R) 0
theorem hidLW_snoc (L : Nat) (ws : List (List Pr)) (c : List Pr) : hidLW L (ws ++ [c]) = addF (fun i => decide (pN c i = -1)) (hidLW L ws) L := by unfold hidLW; rw [List.foldl_append]; rfl
theorem hidRW_snoc (R : Nat) (ws : List (List Pr)) (c : List Pr) : hidRW R (ws ++ [c]) = addF (fun k => !(seenC 0 c).testBit k) (hidRW R ws) R := by unfold hidRW; rw [List.foldl_append]; rfl
theorem fold_bit {q : List Pr → Nat → Bool} {n k : Nat} (ws : List (List Pr)) : ∀ s, (ws.foldl (fun s c => addF (q c) s n) s).testBit k = (s.testBit k || (decide (k < n) && decide (∃ c ∈ ws, q c k = true))) := by
  induction ws with
  | nil => intro s; simp
  | cons c ws ih =>
    intro s
    rw [List.foldl_cons, ih, addF_bit, Bool.or_assoc]
    congr 1
    rw [← Bool.and_or_distrib_left]
    congr 1
    rw [Bool.eq_iff_iff]
    simp [List.mem_cons]
theorem fold_lt {q : List Pr → Nat → Bool} {n : Nat} (ws : List (List Pr)) : ∀ s, s < 2 ^ n → ws.foldl (fun s c => addF (q c) s n) s < 2 ^ n := by
  induction ws with
  | nil => intro s h; exact h
  | cons c ws ih => intro s h; exact ih _ (addF_lt h (Nat.le_refl _))
theorem hidLW_lt (L : Nat) (ws : List (List Pr)) : hidLW L ws < 2 ^ L := fold_lt ws 0 (Nat.two_pow_pos _)
theorem hidRW_lt (R : Nat) (ws : List (List Pr)) : hidRW R ws < 2 ^ R := fold_lt ws 0 (Nat.two_pow_pos _)
theorem hidLW_all (d : RowsD) : hidLW d.l.length (wys d) = hideA d := by
  apply Nat.eq_of_testBit_eq
  intro i
  unfold hidLW
  rw [fold_bit, hideA_bit, Nat.zero_testBit, Bool.false_or]
  congr 1
  rw [Bool.eq_iff_iff]
  simp only [decide_eq_true_eq]
  unfold hidD
  rw [hidB_l]
  constructor
  · rintro ⟨c, hc, h⟩
    obtain ⟨h1, h2⟩ := mem_wys.1 hc
    exact ⟨c, h1, h2, pN_none.1 h⟩
  · rintro ⟨c, h1, h2, h⟩
    exact ⟨c, mem_wys.2 ⟨h1, h2⟩, pN_none.2 h⟩
theorem hidRW_all (d : RowsD) : hidRW d.r.length (wys d) = hideB d := by
  apply Nat.eq_of_testBit_eq
  intro k
  unfold hidRW
  rw [fold_bit, hideB_bit, Nat.zero_testBit, Bool.false_or]
  congr 1
  rw [Bool.eq_iff_iff]
  simp only [decide_eq_true_eq]
  unfold hidD
  rw [hidB_r]
  constructor
  · rintro ⟨c, hc, h⟩
    obtain ⟨h1, h2⟩ := mem_wys.1 hc
    rw [seenC_bit] at h
    simp at h
    exact ⟨c, h1, h2, fun p hp e => h p.1 (by rw [← e]; exact hp)⟩
  · rintro ⟨c, h1, h2, h⟩
    refine ⟨c, mem_wys.2 ⟨h1, h2⟩, ?_⟩
    rw [seenC_bit]
    simp
    exact fun a hp => h (a, k) hp rfl
/-- What is sure, as the reference tells it. -/
def sureR (c0 : List Pr) (x : Nat) (ws : List (List Pr)) : Int := ws.foldl (fun n c => if pN c x = n then n else -1) (pN c0 x)
theorem sureR_snoc (c0 : List Pr) (x : Nat) (ws : List (List Pr)) (c : List Pr) : sureR c0 x (ws ++ [c]) = if pN c x = sureR c0 x ws then sureR c0 x ws else -1 := by unfold sureR; rw [List.foldl_append]; rfl
theorem fold_sure {x : Nat} (ws : List (List Pr)) : ∀ n, (∀ c ∈ ws, pN c x = n) ∧ ws.foldl (fun n c => if pN c x = n then n else -1) n = n ∨ (∃ c ∈ ws, pN c x ≠ n) ∧ ws.foldl (fun n c => if pN c x = n then n else -1) n = -1 := by
  have keep : ∀ ws : List (List Pr), ws.foldl (fun n c => if pN c x = n then n else -1) (-1) = -1 := by
    intro ws
    induction ws with
    | nil => rfl
    | cons c ws ih => rw [List.foldl_cons]; split <;> exact ih
  induction ws with
  | nil => intro n; exact .inl ⟨by simp, rfl⟩
  | cons c ws ih =>
    intro n
    rw [List.foldl_cons]
    by_cases h : pN c x = n
    · rw [if_pos h]
      rcases ih n with ⟨h1, h2⟩ | ⟨⟨b, hb, h1⟩, h2⟩
      · exact .inl ⟨fun b hb => by rcases List.mem_cons.1 hb with e | e; rw [e]; exact h; exact h1 b e, h2⟩
      · exact .inr ⟨⟨b, .tail _ hb, h1⟩, h2⟩
    · rw [if_neg h, keep]
      exact .inr ⟨⟨c, .head _, h⟩, rfl⟩
theorem sureR_all {d : RowsD} (hr : d.r.length ≤ 10) {c0 : List Pr} {l : List (List Pr)} (hw : wys d = c0 :: l) {x : Nat} (hx : x < d.l.length) : sureR c0 x (wys d) = sureN d x := by
  have hc0 : c0 ∈ wys d := by rw [hw]; exact .head _
  obtain ⟨g1, g2⟩ := mem_wys.1 hc0
  have hs := sure_iff (d := d) hr x
  have hb := canS_1024 hr x
  have hcan : ∀ k, (canS d x).testBit k = true ↔ ∃ c ∈ wys d, pN c x = (k : Int) := fun k => by
    rw [← orW_all hx]
    unfold orW
    rw [orW_bit, Nat.zero_testBit, Bool.false_or, decide_eq_true_eq]
    constructor
    · rintro ⟨c, hc, hm⟩; exact ⟨c, hc, (pN_mem (mem_wys.1 hc).1).2 hm⟩
    · rintro ⟨c, hc, hm⟩; exact ⟨c, hc, (pN_mem (mem_wys.1 hc).1).1 hm⟩
  have hhid : hidD d x (-1) = true ↔ ∃ c ∈ wys d, pN c x = -1 := by
    unfold hidD
    rw [hidB_l]
    constructor
    · rintro ⟨c, h1, h2, h⟩; exact ⟨c, mem_wys.2 ⟨h1, h2⟩, pN_none.2 h⟩
    · rintro ⟨c, hc, h⟩
      obtain ⟨h1, h2⟩ := mem_wys.1 hc
      exact ⟨c, h1, h2, pN_none.1 h⟩
  unfold sureR
  rcases fold_sure (x := x) (wys d) (pN c0 x) with ⟨h1, h2⟩ | ⟨⟨c, hc, h1⟩, h2⟩
  · rw [h2]
    have hb0 := pN_bd (c := c0) (x := x)
    by_cases hn : pN c0 x = -1
    · rw [hn]
      by_cases he : sureN d x = -1
      · exact he.symm
      · obtain ⟨_, _, h3⟩ := hs.1.1 he
        have := hhid.2 ⟨c0, hc0, hn⟩
        rw [h3] at this; cases this
    · obtain ⟨k, hk⟩ : ∃ k : Nat, pN c0 x = (k : Int) := ⟨(pN c0 x).toNat, by omega⟩
      have hone : canS d x = 2 ^ k := by
        apply Nat.eq_of_testBit_eq
        intro j
        rw [Nat.testBit_two_pow, Bool.eq_iff_iff, hcan, decide_eq_true_eq]
        constructor
        · rintro ⟨c, hc, h⟩; have := h1 c hc; omega
        · intro e; subst e; exact ⟨c0, hc0, hk⟩
      have hne : sureN d x ≠ -1 := by
        refine hs.1.2 ⟨by rw [hone]; exact Nat.ne_of_gt (Nat.two_pow_pos _), by rw [hone]; exact Nat.and_two_pow_sub_one_eq_mod (2 ^ k) k ▸ Nat.mod_self _, ?_⟩
        cases h : hidD d x (-1) with
        | false => rfl
        | true => obtain ⟨c, hc, e⟩ := hhid.1 h; have := h1 c hc; omega
      obtain ⟨h3, h4, h5⟩ := hs.2 hne
      rw [h3, hk]
      rw [hone] at h4
      have := (Nat.pow_right_inj (a := 2) (by decide)).1 h4
      rw [hone, ← this]
  · rw [h2]
    by_cases he : sureN d x = -1
    · exact he.symm
    · obtain ⟨h3, h4, h5⟩ := hs.1.1 he
      obtain ⟨_, h6, _⟩ := hs.2 he
      have hall : ∀ b ∈ wys d, pN b x = ((Lib.ctz 64 (canS d x) : Nat) : Int) := fun b hb => by
        have hb1 := pN_bd (c := b) (x := x)
        by_cases hn : pN b x = -1
        · have := hhid.2 ⟨b, hb, hn⟩; rw [h5] at this; cases this
        · have hbit := (hcan (pN b x).toNat).2 ⟨b, hb, by omega⟩
          rw [h6, Nat.testBit_two_pow, decide_eq_true_eq] at hbit
          omega
      have h7 := hall c hc
      have h8 := hall c0 hc0
      exact absurd (h7.trans h8.symm) h1
end Go.MatM
