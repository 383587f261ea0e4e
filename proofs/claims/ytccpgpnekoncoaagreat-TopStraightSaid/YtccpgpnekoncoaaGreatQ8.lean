/- Lemmas, in order: Circles, one after the other: what is known between two of them. Looks: which ones are used, a copy of a way.. -/
import Derived.Test.YtccpgpnekoncoaaGreatQ7
namespace Go.ChaM
open Go Go.Sy Go.Proofs.YtccpgpnekoncoaaGreat
/-- Things in memory that the rounds of a range do not turn. -/
def TOff {α : Type} (n : Nat) (enc : α → List Value) (N : List Nat) (w : World) (sa : Option Addr) (l : List α) : Prop :=
  ∀ i s, l[i]? = some s → ∃ blk off c T fr, sa = some ⟨blk, off, none⟩ ∧ blk ∉ N ∧ w.heap[blk]? = some (.cells c T fr) ∧ cellsAt c (off + ((i : Nat) : Int).toNat * n) n = some (enc s)
section
variable {α : Type} {n : Nat} {enc : α → List Value} {N N' : List Nat} {u w w' : World} {sa : Option Addr} {l : List α}
theorem TOff.at (h : TOff n enc N w sa l) : TAt n enc w sa l := fun i s hi => by
  obtain ⟨blk, off, c, T, fr, h1, _, h2, h3⟩ := h i s hi
  exact ⟨blk, off, c, T, fr, h1, h2, h3⟩
theorem TOff.step (h : TOff n enc N w sa l) (e : Ext N w w') (g : Grows N N' w) : TOff n enc N' w' sa l := fun i s hi => by
  obtain ⟨blk, off, c, T, fr, h1, h0, h2, h3⟩ := h i s hi
  refine ⟨blk, off, c, T, fr, h1, fun hx => ?_, e.getM h2 h0, h3⟩
  have := (Array.getElem?_eq_some_iff.1 h2).1
  rcases g _ hx with h4 | h4
  · exact h0 h4
  · omega
theorem TOff.ext (h : TOff n enc N w sa l) (e : Ext [] w w') : TOff n enc N w' sa l := h.step (e.mono (by simp)) (.refl _ _)
theorem TOff.new (h : TAt n enc u sa l) (e : Ext [] u w) (hN : ∀ x ∈ N, u.heap.size ≤ x) : TOff n enc N w sa l := fun i s hi => by
  obtain ⟨blk, off, c, T, fr, h1, h2, h3⟩ := h i s hi
  refine ⟨blk, off, c, T, fr, h1, fun hx => ?_, e.get h2, h3⟩
  have := (Array.getElem?_eq_some_iff.1 h2).1
  have := hN _ hx
  omega
end
theorem Ext.over {u0 u w : World} {M : List Nat} (h : Ext [] u0 u) (h' : Ext M u w) (hM : ∀ x ∈ M, u0.heap.size ≤ x) : Ext [] u0 w := h.chain h' fun x hx => .inr (hM x hx)
/-- What the rounds have done since. -/
structure Rn (u : World) (N N' : List Nat) (w : World) : Prop where
  gr : Grows N N' u
  ext : Ext N u w
theorem Rn.refl (u : World) (N : List Nat) : Rn u N N u := ⟨.refl _ _, .refl _ _⟩
theorem Rn.more {u w w' : World} {N N' : List Nat} (h : Rn u N N' w) (e : Ext [] w w') : Rn u N N' w' := ⟨h.gr, h.ext.trans (e.mono (by simp))⟩
theorem Rn.step {u w w' : World} {N N' N2 : List Nat} (h : Rn u N N' w) (g : Grows N' N2 w) (e : Ext N' w w') : Rn u N N2 w' :=
  ⟨h.gr.trans g h.ext.size, h.ext.chain e fun x hx => h.gr x hx⟩
theorem Rn.base {u0 u w : World} {N N' : List Nat} (h : Rn u N N' w) (e : Ext [] u0 u) (hN : ∀ x ∈ N, u0.heap.size ≤ x) : Ext [] u0 w ∧ ∀ x ∈ N', u0.heap.size ≤ x :=
  ⟨Ext.over e h.ext hN, fun x hx => by
    rcases h.gr x hx with h1 | h1
    · exact hN x h1
    · exact Nat.le_trans e.size h1⟩
/-- A circle that is handed on. -/
def WayAt (b : List LkD) (args : Array Value) (N : List Nat) (w : World) : Prop := ∃ sb cb, args = #[.slice sb b.length cb] ∧ TOff 3 lkC N w sb b
theorem WayAt.size (b : List LkD) (x : Array Value) (N : List Nat) (w : World) (h : WayAt b x N w) : x.size = 1 := by
  obtain ⟨sb, cb, h, _⟩ := h
  subst h; rfl
theorem toff_own {w : World} {l : List LkD} {oa : Option Addr} {cap m : Nat} {X : List (Nat × Obj)} {N : List Nat} (h : OwnSl 173 3 (.slice oa m cap) m (l.flatMap lkC) X) (hm : m = l.length) (hX : ∀ q ∈ X, w.heap[q.1]? = some q.2) (hN : ∀ x ∈ N, x ∉ X.map Prod.fst) : TOff 3 lkC N w oa l := fun i s hi => by
  have hat := own_tat lkC_len h hm hX i s hi
  obtain ⟨blk, off, c, T, fr, h1, h2, h3⟩ := hat
  refine ⟨blk, off, c, T, fr, h1, fun hx => hN _ hx ?_, h2, h3⟩
  rcases h.2 with ⟨h4, _, _⟩ | ⟨B, cap', cur, h4, h5, _⟩
  · cases h4; cases h1
  · cases h4
    cases h1
    rw [h5]; exact .head _
theorem tat_vals {w : World} {sb : Option Addr} {l : List LkD} (h : TAt 3 lkC w sb l) : ValsIn w sb (l.flatMap lkC) := by
  cases hl : l with
  | nil => exact .inl rfl
  | cons x l' =>
    right
    obtain ⟨blk, off, c, T, fr, h1, h2, _⟩ := h 0 x (by rw [hl]; rfl)
    refine ⟨blk, off, c, T, fr, h1, h2, fun j v hj => ?_⟩
    rw [← hl] at hj
    have hjl := len_of hj
    have hfl : (l.flatMap lkC).length = l.length * 3 := by
      clear hj hjl h hl
      induction l with
      | nil => rfl
      | cons y l ih =>
        rw [List.flatMap_cons, List.length_append, ih]
        show 3 + l.length * 3 = (l.length + 1) * 3
        omega
    obtain ⟨s, hs⟩ := ex_of (l := l) (i := j / 3) (by omega)
    obtain ⟨blk', off', c', T', fr', h1', h2', h3'⟩ := h (j / 3) s hs
    rw [h1] at h1'
    cases h1'
    rw [h2] at h2'
    cases h2'
    have h4 := (cellsAt_get 3 _ _ h3').2 (j % 3) v (by
      have gen : ∀ (l : List LkD) (q : Nat) (s : LkD), l[q]? = some s → ∀ r, r < 3 → (l.flatMap lkC)[q * 3 + r]? = (lkC s)[r]? := by
        intro l
        induction l with
        | nil => intro q s h; simp at h
        | cons y l ih =>
          intro q s h r hr
          rw [List.flatMap_cons, List.getElem?_append, lkC_len]
          cases q with
          | zero => cases h; rw [if_pos (by omega), Nat.zero_mul, Nat.zero_add]
          | succ q =>
            rw [if_neg (by omega), show (q + 1) * 3 + r - 3 = q * 3 + r by omega]
            exact ih q s h r hr
      rw [← gen l (j / 3) s hs (j % 3) (by omega), show j / 3 * 3 + j % 3 = j by omega]; exact hj)
    rw [Int.toNat_natCast, show off + j / 3 * 3 + j % 3 = off + j by omega] at h4
    exact h4
section
variable (c : ChD) (b f at_ ps : Nat) (way : List LkD)
def stepC (l : LkD) : List (List LkD) := if l.to < b ∨ way.any (fun o => decide (o.i = l.i)) = true then [] else if l.to = b then [way ++ [l]] else if ps.testBit l.to = true then [] else cirN c b f l.to (ps ||| 2 ^ l.to) (way ++ [l])
theorem cirN_eq : cirN c b (f + 1) at_ ps way = (lks c at_).flatMap (stepC c b f ps way) := rfl
def preC (L : List LkD) (j : Nat) : List (List LkD) := (L.take j).flatMap (stepC c b f ps way)
variable {c b f at_ ps way}
theorem preC_succ {L : List LkD} {j : Nat} {l : LkD} (h : L[j]? = some l) : preC c b f ps way L (j + 1) = preC c b f ps way L j ++ stepC c b f ps way l := by
  unfold preC
  rw [List.take_add_one, h, List.flatMap_append]
  simp
theorem preC_all {L : List LkD} {j : Nat} (h : j = L.length) : preC c b f ps way L j = L.flatMap (stepC c b f ps way) := by
  subst h; unfold preC; rw [List.take_length]
theorem preC_split {L : List LkD} {j : Nat} {l : LkD} (h : L[j]? = some l) : L.flatMap (stepC c b f ps way) = preC c b f ps way L j ++ (stepC c b f ps way l ++ (L.drop (j + 1)).flatMap (stepC c b f ps way)) := by
  unfold preC
  have e : L = L.take j ++ l :: L.drop (j + 1) := by
    have h1 : L[j]'(len_of h) = l := (List.getElem?_eq_some_iff.1 h).2
    have h2 := (List.take_append_drop j L).symm
    rwa [List.drop_eq_getElem_cons (len_of h), h1] at h2
  conv => lhs; rw [e, List.flatMap_append, List.flatMap_cons]
end
theorem cir_at {C done rest P S R : List (List LkD)} {y : List LkD} (h : C = done ++ (P ++ (S ++ R)) ++ rest) (hS : S = [y]) : C[done.length + P.length]? = some y := by
  subst hS
  rw [h, List.append_assoc, List.getElem?_append_right (by omega), show done.length + P.length - done.length = P.length by omega, List.append_assoc, List.getElem?_append_right (by omega), Nat.sub_self]
  rfl
/-- Stations that are passed. -/
def psN (n ps : Nat) : Nat := ((List.range n).filter ps.testBit).length
theorem filt_add {p : Nat → Bool} {k : Nat} (hp : p k = false) : ∀ n, k < n → ((List.range n).filter (fun x => p x || decide (x = k))).length = ((List.range n).filter p).length + 1
  | 0, h => absurd h (Nat.not_lt_zero k)
  | n + 1, h => by
    rw [List.range_succ, List.filter_append, List.filter_append, List.length_append, List.length_append]
    by_cases hk : k = n
    · subst hk
      have e : (List.range k).filter (fun x => p x || decide (x = k)) = (List.range k).filter p := List.filter_congr fun x hx => by
        have := List.mem_range.1 hx
        rw [decide_eq_false (by omega), Bool.or_false]
      rw [e]
      simp [hp]
    · have ih := filt_add hp n (by omega)
      rw [ih]
      have : ([n].filter fun x => p x || decide (x = k)) = [n].filter p := List.filter_congr fun x hx => by rw [List.mem_singleton.1 hx, decide_eq_false (Ne.symm hk), Bool.or_false]
      rw [this]; omega
theorem psN_add {n ps k : Nat} (hk : k < n) (h : ps.testBit k = false) : psN n (ps ||| 2 ^ k) = psN n ps + 1 := by
  unfold psN
  rw [← filt_add h n hk]
  congr 1
  refine List.filter_congr fun x _ => ?_
  rw [Nat.testBit_or, Nat.testBit_two_pow]
  congr 1
  rw [decide_eq_decide]
  exact eq_comm
theorem psN_le (n ps : Nat) : psN n ps ≤ n := by
  unfold psN
  have := List.length_filter_le ps.testBit (List.range n)
  rwa [List.length_range] at this
theorem psN_one {n b : Nat} (hb : b < n) : psN n (2 ^ b) = 1 := by
  have h := psN_add (n := n) (ps := 0) hb (Nat.zero_testBit b)
  rw [Nat.zero_or] at h
  rw [h]
  unfold psN
  have : (List.range n).filter (Nat.testBit 0) = [] := List.filter_eq_nil_iff.2 fun x _ => by rw [Nat.zero_testBit]; decide
  rw [this]; rfl
/-- All circles from the first stations on. -/
def begC (c : ChD) (k : Nat) : List (List LkD) := (List.range k).flatMap fun b => cirN c b c.n.toNat b (2 ^ b) []
theorem begC_split {c : ChD} {k : Nat} (h : k < c.n.toNat) : ∃ R, cirL c = begC c k ++ cirN c k c.n.toNat k (2 ^ k) [] ++ R := by
  obtain ⟨d, hd⟩ : ∃ d, c.n.toNat = k + 1 + d := ⟨c.n.toNat - (k + 1), by omega⟩
  refine ⟨((List.range d).map (k + 1 + ·)).flatMap fun b => cirN c b c.n.toNat b (2 ^ b) [], ?_⟩
  unfold cirL begC
  have e : List.range c.n.toNat = List.range k ++ [k] ++ (List.range d).map (k + 1 + ·) := by
    rw [hd, ← List.range_succ, List.range_add]
  conv => lhs; rw [e]
  rw [List.flatMap_append, List.flatMap_append]
  simp
theorem begC_succ (c : ChD) (k : Nat) : begC c (k + 1) = begC c k ++ cirN c k c.n.toNat k (2 ^ k) [] := by
  unfold begC
  rw [List.range_succ, List.flatMap_append]
  simp
end Go.ChaM

namespace Go.Proofs.YtccpgpnekoncoaaGreat
open Go Go.Sy Go.ChaM
def okL (l o : LkD) : Bool := !decide (o.i = l.i)
theorem any_okL (l : LkD) (way : List LkD) : (way.any fun o => decide (o.i = l.i)) = !way.all (okL l) := by
  induction way with
  | nil => rfl
  | cons x way ih => rw [List.any_cons, List.all_cons, ih]; unfold okL; cases decide (x.i = l.i) <;> simp
theorem fl_len (l : List LkD) : (l.flatMap lkC).length = l.length * 3 := by
  induction l with
  | nil => rfl
  | cons y l ih =>
    rw [List.flatMap_cons, List.length_append, ih]
    show 3 + l.length * 3 = (l.length + 1) * 3
    omega
theorem fl_one (l : List LkD) : (l.flatMap lkC).all (·.oneCell') = true := by
  induction l with
  | nil => rfl
  | cons y l ih => rw [List.flatMap_cons, List.all_append, ih]; rfl
theorem p86 (o l : LkD) (Bl : Nat) (u : World) (hB : u.heap[Bl]? = some (.cells #[.int .i64 (l.i : Nat), .int .i64 (l.to : Nat), .bool l.back] 173 (0, 0))) : Calls Tryz.prog 150 #[lkV o, ptr Bl 0] u (Ret fun v w' => v = .bool (!okL l o) ∧ Ext [] u w') := by
  refine calls_of Tryz.func150 rfl rfl (fun a hf => ?_)
  have hh := Hp.init u []
  refine sy_sq ?_
  refine o_box hf hh ?_; clear hf hh a; intro B2 a w hf hh
  refine o_v hf hh (yv_assign rfl) ?_; clear hf a; intro a hf
  refine o_end ?_
  refine sy_sq ?_
  refine o_v hf hh (yv_fieldAddr Tryz.fo_173_0 rfl) ?_; clear hf a; intro a hf
  refine o_v hf hh (y_ld Tryz.sc_3 rfl) ?_; clear hf a; intro a hf
  refine o_v hf hh (yv_fieldAddr Tryz.fo_173_0 rfl) ?_; clear hf a; intro a hf
  refine o_v hf hh (y_ld Tryz.sc_3 rfl) ?_; clear hf a; intro a hf
  refine o_v hf hh (yv_bin rfl rfl rfl) ?_; clear hf a; intro a hf
  refine o_v hf hh (yv_assign rfl) ?_; clear hf a; intro a hf
  refine o_end ?_
  refine sy_ret ?_
  refine ret_r hf rfl rfl ?_
  refine ⟨congrArg Value.bool ?_, hh.ext⟩
  clear hf hh
  unfold okL
  rw [Bool.not_not, decide_eq_decide]
  omega
theorem p88 (way : List LkD) (sb : Option Addr) (n cw : Nat) (u : World) (hW : TAt 3 lkC u sb way) (hn : n = way.length) (hl : way.length ≤ 100) : Calls Tryz.prog 152 #[.slice sb n cw] u (Ret fun v w' => ∃ X, OwnSl 173 3 v n (way.flatMap lkC) X ∧ Hp u [] X w') := by
  subst hn
  refine calls_of Tryz.func152 rfl rfl (fun a hf => ?_)
  have hh := Hp.init u []
  refine sy_sq ?_
  refine o_v hf hh (yv_assign rfl) ?_; clear hf a; intro a hf
  refine o_end ?_
  refine sy_seq ?_
  refine sy_sq ?_
  refine o_v hf hh (yv_move rfl) ?_; clear hf a; intro a hf
  refine o_v hf hh (yv_slNil Tryz.se_171 rfl rfl) ?_; clear hf a; intro a hf
  refine o_end ?_
  refine sy_cond hf rfl (fun hg2 => ?_) (fun hg2 => ?_)
  ·have hG2 := hg2; try simp only [gS] at hG2
   refine sy_sq ?_
   refine o_v hf hh (yv_assign rfl) ?_; clear hf a; intro a hf
   refine o_end ?_
   refine sy_ret ?_
   refine then_r ?_
   refine ret_r hf rfl rfl ?_
   first
     | exact ⟨X5, hO5, hh⟩
     | (have hz : way = [] := by
          cases way with
          | nil => rfl
          | cons x l => obtain ⟨_, _, _, _, _, e, _, _⟩ := hW 0 x rfl; subst e; simp_all
        subst hz
        exact ⟨[], OwnSl.nil _ _, hh⟩)
  ·have hG2 := hg2; try simp only [gS] at hG2
   refine sy_skip ?_
   refine then_n ?_
   refine sy_sq ?_
   refine ops_buildSl hf hh Tryz.bl_171_0 rfl rfl (.inl rfl) rfl ?_; clear hf hh; clear a; intro B5 a w hf hh
   refine o_v hf hh (yv_move rfl) ?_; clear hf a; intro a hf
   refine ops_appendV (e := 173) (size := 3) (xs := []) (news := way.flatMap lkC) (X := [(B5, .cells #[] 173)]) (Z := []) (m := 0) hf hh Tryz.eb_171 rfl rfl ⟨rfl, .inr ⟨B5, 0, #[], rfl, rfl, Nat.le_refl _, Nat.zero_le _, rfl, rfl⟩⟩ (tat_vals (hW.ext hh.ext)) (fl_len way) (by omega) (fl_one way) (by simp only [maxLen]; omega) (by omega) (.inl rfl) rfl ?_
   clear hf hh a; intro v4 X5 a w hO5 hf hh
   rw [Nat.zero_add, List.nil_append] at hO5
   rw [List.append_nil] at hh
   refine o_v hf hh (yv_assign rfl) ?_; clear hf a; intro a hf
   refine o_end ?_
   refine sy_ret ?_
   refine ret_r hf rfl rfl ?_
   first
     | exact ⟨X5, hO5, hh⟩
     | (have hz : way = [] := by
          cases way with
          | nil => rfl
          | cons x l => obtain ⟨_, _, _, _, _, e, _, _⟩ := hW 0 x rfl; subst e; simp_all
        subst hz
        exact ⟨[], OwnSl.nil _ _, hh⟩)
end Go.Proofs.YtccpgpnekoncoaaGreat

