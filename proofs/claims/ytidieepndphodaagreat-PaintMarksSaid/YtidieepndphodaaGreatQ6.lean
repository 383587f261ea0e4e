/- Lemmas, in order: Values in memory, one after the other; the rows of the document's examples, and what they give. Plain laws: what the way with the fewest hidden marks answers. Plain laws: which marks are sure, which can be hidden; the spans of shifts. Plain laws: rows that are narrower have no more ways, no more partners, no wider shifts. Plain laws: rows turned round, left for right, and mirrored, told from the other end. Plain laws: ways with a pair, told by how many marks are hidden on either side. Plain laws: rows without a mark, rows before and behind a pair, and how many ways they have.. -/
import Derived.Test.YtidieepndphodaaGreatQ5
namespace Go.MatM
open Go Go.Sy Go.Proofs
/-- Cells behind a slice. -/
def ValsAt (w : World) (sa : Option Addr) (vs : List Value) : Prop := vs = [] ∨ ∃ blk off c T fr, sa = some ⟨blk, off, none⟩ ∧ w.heap[blk]? = some (.cells c T fr) ∧ ∀ j v, vs[j]? = some v → c[off + j]? = some v
theorem ValsAt.ext {w w' : World} {sa : Option Addr} {vs : List Value} (h : ValsAt w sa vs) (e : Ext [] w w') : ValsAt w' sa vs := by
  rcases h with h | ⟨blk, off, c, T, fr, h1, h2, h3⟩
  · exact .inl h
  · exact .inr ⟨blk, off, c, T, fr, h1, e.get h2, h3⟩
theorem valsAt_own {w : World} {e size m cap : Nat} {oa : Option Addr} {xs : List Value} {X : List (Nat × Obj)} (ho : OwnSl e size (.slice oa m cap) m xs X) (hX : ∀ x ∈ X, w.heap[x.1]? = some x.2) : ValsAt w oa xs := by
  obtain ⟨hl, h⟩ := ho
  rcases h with ⟨_, h0, _⟩ | ⟨B, cp, cur, e1, e2, h3, h4, h5, h6⟩
  · subst h0
    exact .inl (List.eq_nil_of_length_eq_zero (by omega))
  · cases e1
    refine .inr ⟨B, 0, cur, e, (0, 0), rfl, hX (B, .cells cur e (0, 0)) (by rw [e2]; simp), fun j v hj => ?_⟩
    rw [← h6, List.getElem?_take] at hj
    split at hj
    · rw [Nat.zero_add, ← Array.getElem?_toList]; exact hj
    · cases hj
def encP (l : List Pr) : List Value := l.flatMap fun p => [.int .i64 p.1, .int .i64 p.2]
theorem encP_snoc (l : List Pr) (p : Pr) : encP (l ++ [p]) = encP l ++ [.int .i64 p.1, .int .i64 p.2] := by simp [encP]
theorem encP_get : ∀ (l : List Pr) (i : Nat) (p : Pr), l[i]? = some p → (encP l)[i * 2]? = some (.int .i64 p.1) ∧ (encP l)[i * 2 + 1]? = some (.int .i64 p.2)
  | [], i, p, h => by simp at h
  | q :: l, 0, p, h => by simp at h; subst h; exact ⟨rfl, rfl⟩
  | q :: l, i + 1, p, h => by
    have ih := encP_get l i p (by simpa using h)
    have e1 : (i + 1) * 2 = i * 2 + 1 + 1 := by omega
    rw [e1]
    exact ih
theorem encP_len (l : List Pr) : (encP l).length = l.length * 2 := by
  induction l with
  | nil => rfl
  | cons p l ih => unfold encP at *; rw [List.flatMap_cons, List.length_append, ih, List.length_cons]; simp; omega
theorem take_snoc {α : Type} {a b : List α} {i : Nat} {x y : α} (h : a.take i = b.take i) (hx : a[i]? = some x) (hy : b[i]? = some y) (e : x = y) : a.take (i + 1) = b.take (i + 1) := by
  rw [List.take_add_one, List.take_add_one, h, hx, hy, e]
theorem ne_of_at {α : Type} {a b : List α} {i : Nat} {x y : α} (hx : a[i]? = some x) (hy : b[i]? = some y) (e : x ≠ y) : a ≠ b := fun h => by
  rw [h, hy] at hx; cases hx; exact e rfl
def sampleD : RowsD := { l := [⟨100, 102, 10, 12⟩, ⟨200, 202, 50, 55⟩, ⟨300, 301, 10, 13⟩], r := [⟨90, 92, 11, 12⟩, ⟨185, 190, 52, 60⟩, ⟨280, 282, 9, 10⟩, ⟨292, 294, 12, 14⟩], lo := 5, hi := 20, hid := 1 }
theorem smp_op : opE sampleD true = 0 := by kernel_rfl
theorem smp_fitsE : fitsE sampleD 2 0 = 0 := by kernel_rfl
theorem smp_fits : fitsV sampleD 2 0 = false := by kernel_rfl
theorem smp_count : countV sampleD = 2 := by kernel_rfl
theorem smp_countE : countE sampleD = 0 := by kernel_rfl
theorem smp_few : fewL sampleD = [(0, 0), (1, 1), (2, 2)] := by kernel_rfl
theorem smp_hid : fewH sampleD = 1 := by kernel_rfl
theorem smp_can : canL sampleD = [1, 2, 12] := by kernel_rfl
theorem smp_sure : sureL sampleD = [0, 1, -1] := by kernel_rfl
theorem smp_shE : shiftE sampleD 2 = 0 := by kernel_rfl
theorem smp_sh : shiftV sampleD 2 = (6, 20) := by kernel_rfl
theorem smp_ask : askV sampleD = (2, 1) := by kernel_rfl
theorem smp_askE : askE sampleD = 0 := by kernel_rfl
theorem smp_fits0 : fitsV sampleD 0 0 = true := by kernel_rfl
theorem smp_fitsE0 : fitsE sampleD 0 0 = 0 := by kernel_rfl
theorem smp_hideA : hideA sampleD = 0 := by kernel_rfl
theorem smp_hideB : hideB sampleD = 12 := by kernel_rfl
theorem smp_shE0 : shiftE sampleD 0 = 0 := by kernel_rfl
theorem smp_sh0 : shiftV sampleD 0 = (8, 12) := by kernel_rfl
end Go.MatM
namespace Go.MatM
open Go Go.Sy
theorem need_iff {d : RowsD} (hV : Valid d) (n : Nat) : need d ≤ n ↔ ((d.l.length + d.r.length : Nat) : Int) - 2 * (n : Nat) ≤ d.hid := by
  have h1 := hV.nl; have h2 := hV.nr; have h3 := hV.h1; have h4 := hV.h2
  unfold need needI
  have := Int.tdiv_eq_ediv (a := ((d.l.length + d.r.length : Nat) - d.hid + 1)) (b := 2)
  rw [this, show Int.sign 2 = 1 from rfl]
  split <;> omega
theorem isD_iff (d : RowsD) : isD d = true ↔ need d ≤ mosD d := by unfold isD mosD; rw [decide_eq_true_eq]
theorem isD_cnt (d : RowsD) : isD d = true ↔ 0 < cnt (fitD d) d.l.length d.r.length 0 0 (need d) := by
  rw [cnt_pos, ← le_mos_iff]; exact isD_iff d
theorem fewL_eq {d : RowsD} (h : opE d true = 0) : Ch (fitD d) d.l.length d.r.length 0 0 (fewL d) ∧ (fewL d).length = mosD d := by
  unfold fewL; rw [if_pos h]; exact grd_ch rfl
theorem fewL_none {d : RowsD} (h : opE d true ≠ 0) : fewL d = [] := by unfold fewL; rw [if_neg h]
theorem fewH_eq {d : RowsD} (h : opE d true = 0) : fewH d = ((d.l.length + d.r.length : Nat) : Int) - 2 * (mosD d : Nat) := by unfold fewH; rw [if_pos h]
theorem fewH_none {d : RowsD} (h : opE d true ≠ 0) : fewH d = 0 := by unfold fewH; rw [if_neg h]
theorem mosD_le (d : RowsD) : mosD d ≤ d.l.length ∧ mosD d ≤ d.r.length := by
  have := mos_le (fitD d) d.l.length d.r.length 0 0
  unfold mosD; omega
def setH (d : RowsD) (h : Int) : RowsD := { d with hid := h }
theorem setH_valid {d : RowsD} (hV : Valid d) {h : Int} (h0 : 0 ≤ h) (h1 : h ≤ 20) : Valid (setH d h) := ⟨hV.nl, hV.nr, hV.ml, hV.mr, hV.s1, hV.s2, hV.s3, h0, h1⟩
theorem fewH_bd {d : RowsD} (h : opE d true = 0) : 0 ≤ fewH d ∧ fewH d ≤ d.hid ∧ fewH d ≤ 20 := by
  obtain ⟨hok, _, his⟩ := opE_zero.1 h
  have hV := (okRows_iff d).1 hok
  have h1 := (need_iff hV _).1 ((isD_iff d).1 his)
  have h2 := mosD_le d
  have h3 := hV.nl; have h4 := hV.nr
  rw [fewH_eq h]; omega
theorem few_again {d : RowsD} (h : opE d true = 0) : opE (setH d (fewH d)) true = 0 ∧ fewH (setH d (fewH d)) = fewH d := by
  obtain ⟨hok, _, his⟩ := opE_zero.1 h
  have hV := (okRows_iff d).1 hok
  have hb := fewH_bd h
  have hV2 := setH_valid hV hb.1 hb.2.2
  have e : opE (setH d (fewH d)) true = 0 := opE_zero.2 ⟨(okRows_iff _).2 hV2, rfl, (isD_iff _).2 ((need_iff hV2 _).2 (by
    show ((d.l.length + d.r.length : Nat) : Int) - 2 * (mosD d : Nat) ≤ fewH d
    rw [fewH_eq h]; omega))⟩
  refine ⟨e, ?_⟩
  rw [fewH_eq e, fewH_eq h]; rfl
theorem few_less {d : RowsD} (h : opE d true = 0) (h0 : 0 < fewH d) : okRows (setH d (fewH d - 1)) = true ∧ countV (setH d (fewH d - 1)) = 0 ∧ countE (setH d (fewH d - 1)) = 0 := by
  obtain ⟨hok, _, his⟩ := opE_zero.1 h
  have hV := (okRows_iff d).1 hok
  have hb := fewH_bd h
  have hV2 := setH_valid hV (h := fewH d - 1) (by omega) (by omega)
  have hok2 := (okRows_iff _).2 hV2
  refine ⟨hok2, ?_, by unfold countE; rw [if_pos hok2]⟩
  unfold countV
  rw [if_pos hok2]
  have hz : ¬ 0 < cnt (fitD (setH d (fewH d - 1))) (setH d (fewH d - 1)).l.length (setH d (fewH d - 1)).r.length 0 0 (need (setH d (fewH d - 1))) := by
    rw [← isD_cnt, isD_iff, need_iff hV2]
    show ¬ ((d.l.length + d.r.length : Nat) : Int) - 2 * (mosD d : Nat) ≤ fewH d - 1
    rw [fewH_eq h]; omega
  omega
theorem count_none {d : RowsD} (hok : okRows d = true) (h : opE d true ≠ 0) : opE d true = 4 ∧ countV d = 0 := by
  have his : ¬ isD d = true := fun h2 => h (opE_zero.2 ⟨hok, rfl, h2⟩)
  constructor
  · unfold opE; simp [hok, his]
  · unfold countV; rw [if_pos hok]
    rw [isD_cnt] at his; omega
theorem opE_bad {d : RowsD} (hok : okRows d = false) (b : Bool) : opE d b = 1 := by unfold opE; rw [if_pos hok]
theorem count_some {d : RowsD} (h : opE d true = 0) : 1 ≤ countV d ∧ countE d = 0 := by
  obtain ⟨hok, _, his⟩ := opE_zero.1 h
  unfold countV countE
  rw [if_pos hok, if_pos hok]
  have := (isD_cnt d).1 his
  omega
theorem few_pair {d : RowsD} (h : opE d true = 0) {i : Nat} {p : Pr} (hp : (fewL d)[i]? = some p) : p.1 < d.l.length ∧ p.2 < d.r.length ∧ fitD d p.1 p.2 = true := by
  have hc := (Ch_iff.1 (fewL_eq h).1).1 p (List.mem_of_getElem? hp)
  exact ⟨hc.2.1, hc.2.2.2.1, hc.2.2.2.2⟩
theorem few_inc {d : RowsD} (h : opE d true = 0) {i : Nat} {p q : Pr} (hq : (fewL d)[i]? = some q) (hp : (fewL d)[i + 1]? = some p) : q.1 < p.1 ∧ q.2 < p.2 := by
  have hc := (Ch_iff.1 (fewL_eq h).1).2
  rw [List.pairwise_iff_getElem] at hc
  obtain ⟨h1, rfl⟩ := List.getElem?_eq_some_iff.1 hq
  obtain ⟨h2, rfl⟩ := List.getElem?_eq_some_iff.1 hp
  exact hc i (i + 1) h1 h2 (by omega)
/-- Fits, of two marks. -/
theorem fits_ok {d : RowsD} (hok : okRows d = true) {x y : Nat} (hx : x < d.l.length) (hy : y < d.r.length) : fitsE d x y = 0 ∧ fitsV d x y = fitD d x y := by
  have hi : (inB (x : Int) d.l.length && inB (y : Int) d.r.length) = true := by
    unfold inB; simp only [Bool.and_eq_true, decide_eq_true_eq]; omega
  have e : fitsE d x y = 0 := by unfold fitsE; rw [if_neg (by simp [hok]), if_neg (by simp [hi])]
  refine ⟨e, ?_⟩
  unfold fitsV; rw [e]; simp
/-- A chain grows by a pair behind it. -/
theorem Ch_snoc {F : Nat → Nat → Bool} {L R : Nat} {c : List Pr} {x y : Nat} (h : Ch F L R 0 0 c) (hb : ∀ p ∈ c, p.1 < x ∧ p.2 < y) (hx : x < L) (hy : y < R) (hF : F x y = true) : Ch F L R 0 0 (c ++ [(x, y)]) := by
  rw [Ch_iff] at h ⊢
  constructor
  · intro p hp
    rcases List.mem_append.1 hp with hp | hp
    · exact h.1 p hp
    · rw [List.mem_singleton] at hp; subst hp; exact ⟨Nat.zero_le _, hx, Nat.zero_le _, hy, hF⟩
  · rw [List.pairwise_append]
    exact ⟨h.2, List.pairwise_singleton _ _, fun p hp q hq => by rw [List.mem_singleton] at hq; subst hq; exact hb p hp⟩
/-- At the first place where two ways differ the one that is told comes before. -/
theorem lex_at : ∀ {a b : List Pr} {i : Nat} {p q : Pr}, lexle a b → a.take i = b.take i → a[i]? = some p → b[i]? = some q → p ≠ q → plt p q
  | [], _, i, p, q, _, _, h, _, _ => by simp at h
  | _ :: _, [], i, p, q, _, _, _, h, _ => by simp at h
  | x :: a, y :: b, 0, p, q, h, _, hp, hq, hne => by
    simp at hp hq; subst hp; subst hq
    unfold lexle at h
    rcases h with h | h
    · exact h
    · exact absurd h.1 hne
  | x :: a, y :: b, i + 1, p, q, h, ht, hp, hq, hne => by
    simp only [List.take_succ_cons, List.cons.injEq] at ht
    unfold lexle at h
    rcases h with h | h
    · have h' : plt y y := ht.1 ▸ h
      rcases h' with h | h
      · exact absurd h (Nat.lt_irrefl _)
      · exact absurd h.2 (Nat.lt_irrefl _)
    · exact lex_at h.2 ht.2 (by simpa using hp) (by simpa using hq) hne
theorem few_lex {d : RowsD} (h : opE d true = 0) {c : List Pr} (hc : Ch (fitD d) d.l.length d.r.length 0 0 c) : c.length ≤ (fewL d).length ∧ (c.length = (fewL d).length → lexle (fewL d) c) := by
  have e := (fewL_eq h).2
  constructor
  · rw [e]; exact le_mos hc
  · intro hl
    unfold fewL; rw [if_pos h]
    exact grd_first rfl hc (by rw [hl, e])
end Go.MatM
namespace Go.MatM
open Go Go.Sy Go.Proofs
theorem bits1024 : upto (fun s => Nat.beq (pc s) 1 == (!Nat.beq s 0 && Nat.beq (s &&& (s - 1)) 0) && (!Nat.beq (pc s) 1 || (Nat.beq s (2 ^ Lib.ctz 64 s) && Nat.blt (Lib.ctz 64 s) 10))) 1024 = true := by kernel_rfl
theorem pc_one {s : Nat} (hs : s < 1024) : pc s = 1 ↔ s ≠ 0 ∧ s &&& (s - 1) = 0 := by
  have h := upto_get bits1024 s hs
  simp only [Bool.and_eq_true, beq_iff_eq] at h
  have e : ∀ a b : Nat, Nat.beq a b = decide (a = b) := fun a b => by
    by_cases h : a = b
    · subst h; simp
    · rw [decide_eq_false h, Bool.eq_false_iff]; exact fun h2 => h (Nat.eq_of_beq_eq_true h2)
  have h1 := h.1
  rw [e, e, e] at h1
  constructor
  · intro hp
    rw [decide_eq_true hp] at h1
    simp at h1; exact h1
  · rintro ⟨h2, h3⟩
    rw [decide_eq_false h2, decide_eq_true h3] at h1
    simpa using h1
theorem pc_ctz {s : Nat} (hs : s < 1024) (hp : pc s = 1) : s = 2 ^ Lib.ctz 64 s ∧ Lib.ctz 64 s < 10 := by
  have h := upto_get bits1024 s hs
  simp only [Bool.and_eq_true, Bool.or_eq_true, Bool.not_eq_true'] at h
  rcases h.2 with h2 | ⟨h2, h3⟩
  · rw [hp] at h2; cases h2
  · exact ⟨Nat.eq_of_beq_eq_true h2, Nat.le_of_ble_eq_true h3⟩
theorem canS_bit (d : RowsD) (i k : Nat) : (canS d i).testBit k = (decide (k < d.r.length) && canB (fitD d) d.l.length d.r.length (need d) i k) := setF_bit _ _ _
theorem canS_1024 {d : RowsD} (hr : d.r.length ≤ 10) (i : Nat) : canS d i < 1024 := by
  have h := canS_lt d i
  have h2 : 2 ^ d.r.length ≤ 2 ^ 10 := Nat.pow_le_pow_right (by omega) hr
  omega
theorem canS_zero {d : RowsD} {i : Nat} : canS d i = 0 ↔ ∀ k, k < d.r.length → canB (fitD d) d.l.length d.r.length (need d) i k = false := by
  constructor
  · intro h k hk
    have := canS_bit d i k
    rw [h, Nat.zero_testBit, decide_eq_true hk, Bool.true_and] at this
    exact this.symm
  · intro h
    apply Nat.eq_of_testBit_eq
    intro k
    rw [Nat.zero_testBit, canS_bit]
    by_cases hk : k < d.r.length
    · rw [h k hk, Bool.and_false]
    · rw [decide_eq_false hk, Bool.false_and]
theorem some_way {d : RowsD} (h : isD d = true) : ∃ c, Ch (fitD d) d.l.length d.r.length 0 0 c ∧ need d ≤ c.length := by
  rw [isD_iff] at h; exact le_mos_iff.1 h
theorem can_of {d : RowsD} {c : List Pr} (hc : Ch (fitD d) d.l.length d.r.length 0 0 c) (hn : need d ≤ c.length) {p : Pr} (hp : p ∈ c) : (canS d p.1).testBit p.2 = true := by
  have h := (Ch_iff.1 hc).1 p hp
  rw [canS_bit, decide_eq_true h.2.2.2.1, Bool.true_and, canB_iff h.2.1 h.2.2.2.1]
  exact ⟨c, hc, hn, hp⟩
theorem can_or_hid {d : RowsD} {i : Nat} (h : isD d = true) (h0 : canS d i = 0) : hidD d i (-1) = true := by
  obtain ⟨c, hc, hn⟩ := some_way h
  unfold hidD
  rw [hidB_l]
  refine ⟨c, hc, hn, fun p hp e => ?_⟩
  have := can_of hc hn hp
  rw [e, h0, Nat.zero_testBit] at this; cases this
theorem can_or_hidR {d : RowsD} {k : Nat} (h : isD d = true) (h0 : ∀ i, i < d.l.length → (canS d i).testBit k = false) : hidD d (-1) k = true := by
  obtain ⟨c, hc, hn⟩ := some_way h
  unfold hidD
  rw [hidB_r]
  refine ⟨c, hc, hn, fun p hp e => ?_⟩
  have h1 := can_of hc hn hp
  have h2 := (Ch_iff.1 hc).1 p hp
  rw [e, h0 p.1 h2.2.1] at h1; cases h1
theorem hideA_bit (d : RowsD) (i : Nat) : (hideA d).testBit i = (decide (i < d.l.length) && hidD d i (-1)) := setF_bit _ _ _
theorem hideB_bit (d : RowsD) (k : Nat) : (hideB d).testBit k = (decide (k < d.r.length) && hidD d (-1) k) := setF_bit _ _ _
theorem hide_lt (d : RowsD) : hideA d < 2 ^ d.l.length ∧ hideB d < 2 ^ d.r.length := ⟨setF_lt _ _, setF_lt _ _⟩
theorem shr_zero {s n : Nat} (h : s < 2 ^ n) : s >>> n = 0 := by rw [Nat.shiftRight_eq_div_pow, Nat.div_eq_of_lt h]
theorem endsF_none {p : Nat → Bool} {f : Nat → Int × Int} : ∀ {n : Nat}, endsF p f n = none ↔ ∀ k, k < n → p k = false
  | 0 => by simp [endsF]
  | n + 1 => by
    rw [endsF_step]
    constructor
    · intro h k hk
      split at h
      · unfold endsA at h; split at h <;> cases h
      · rename_i hp
        rcases Nat.lt_or_ge k n with h2 | h2
        · exact endsF_none.1 h k h2
        · rw [show k = n by omega]; simpa using hp
    · intro h
      rw [if_neg (by rw [h n (by omega)]; simp)]
      exact endsF_none.2 fun k hk => h k (by omega)
theorem shiftO_none {d : RowsD} {i : Nat} : shiftO d i = none ↔ canS d i = 0 := by
  unfold shiftO
  rw [endsF_none, canS_zero]
  refine forall_congr' fun k => ⟨fun h hk => ?_, fun h hk => ?_⟩
  · have := h hk
    rw [canS_bit, decide_eq_true hk, Bool.true_and] at this; exact this
  · rw [canS_bit, h hk, Bool.and_false]
/-- The document's shift of two marks: empty if their tones have nothing in common. -/
def refSh (d : RowsD) (i k : Nat) : Int × Int := match d.l[i]?, d.r[k]? with
  | some a, some b => if max a.tl b.tl > min a.th b.th then (1, 0) else (max (a.al - b.ah) d.lo, min (a.ah - b.al) d.hi)
  | _, _ => (0, 0)
theorem refSh_eq {d : RowsD} {i k : Nat} {a b : Mk} (h1 : d.l[i]? = some a) (h2 : d.r[k]? = some b) : refSh d i k = if max a.tl b.tl > min a.th b.th then (1, 0) else (max (a.al - b.ah) d.lo, min (a.ah - b.al) d.hi) := by simp [refSh, h1, h2]
theorem refSh_fit {d : RowsD} (hV : Valid d) {i k : Nat} (hi : i < d.l.length) (hk : k < d.r.length) : decide ((refSh d i k).1 ≤ (refSh d i k).2) = fitD d i k ∧ (fitD d i k = true → refSh d i k = shiftD d i k) := by
  obtain ⟨a, ha⟩ := ex_of hi
  obtain ⟨b, hb⟩ := ex_of hk
  have h1 := okM_iff.1 (hV.ml a (List.mem_of_getElem? ha))
  have h2 := okM_iff.1 (hV.mr b (List.mem_of_getElem? hb))
  have h3 := hV.s2
  rw [refSh_eq ha hb, show fitD d i k = fitM d.lo d.hi a b by simp [fitD, ha, hb], shiftD_eq ha hb]
  unfold fitM
  by_cases ht : max a.tl b.tl > min a.th b.th
  · rw [if_pos ht]
    constructor
    · symm
      simp only [Bool.and_eq_false_iff, decide_eq_false_iff_not]
      rw [show decide (((1 : Int), (0 : Int)).1 ≤ ((1 : Int), (0 : Int)).2) = false from rfl]
      simp only [Bool.and_eq_false_iff, decide_eq_false_iff_not]
      omega
    · intro h
      simp only [Bool.and_eq_true, decide_eq_true_eq] at h
      omega
  · rw [if_neg ht]
    refine ⟨?_, fun _ => rfl⟩
    rw [Bool.eq_iff_iff]
    simp only [Bool.and_eq_true, decide_eq_true_eq]
    omega
theorem can_fit {d : RowsD} {i k : Nat} (h : (canS d i).testBit k = true) : k < d.r.length ∧ fitD d i k = true := by
  rw [canS_bit, Bool.and_eq_true, decide_eq_true_eq] at h
  exact ⟨h.1, by have := h.2; unfold canB at this; rw [Bool.and_eq_true] at this; exact this.1⟩
/-- All sets together. -/
def allS (d : RowsD) : Nat → Nat
  | 0 => 0
  | i + 1 => allS d i ||| canS d i
theorem allS_lt {d : RowsD} (hr : d.r.length ≤ 10) : ∀ i, allS d i < 1024
  | 0 => by simp [allS]
  | i + 1 => Nat.or_lt_two_pow (n := 10) (allS_lt hr i) (canS_1024 hr i)
theorem allS_bit (d : RowsD) (k : Nat) : ∀ i, (allS d i).testBit k = false → ∀ j, j < i → (canS d j).testBit k = false
  | 0, _, j, hj => by omega
  | i + 1, h, j, hj => by
    rw [allS, Nat.testBit_or, Bool.or_eq_false_iff] at h
    rcases Nat.lt_or_ge j i with h2 | h2
    · exact allS_bit d k i h.1 j h2
    · rw [show j = i by omega]; exact h.2
/-- A mark is sure just if it has one partner alone, and cannot be hidden. -/
theorem sure_iff {d : RowsD} (hr : d.r.length ≤ 10) (i : Nat) : ((sureN d i ≠ -1) ↔ (canS d i ≠ 0 ∧ canS d i &&& (canS d i - 1) = 0 ∧ hidD d i (-1) = false)) ∧ (sureN d i ≠ -1 → sureN d i = ((Lib.ctz 64 (canS d i) : Nat) : Int) ∧ canS d i = 2 ^ Lib.ctz 64 (canS d i) ∧ Lib.ctz 64 (canS d i) < 10) := by
  have hs := canS_1024 hr i
  have hp := pc_one hs
  unfold sureN
  by_cases h : pc (canS d i) = 1 ∧ hidD d i (-1) = false
  · rw [if_pos h]
    have hc := pc_ctz hs h.1
    refine ⟨⟨fun _ => ⟨(hp.1 h.1).1, (hp.1 h.1).2, h.2⟩, fun _ e => by omega⟩, fun _ => ⟨rfl, hc.1, hc.2⟩⟩
  · rw [if_neg h]
    refine ⟨⟨fun e => absurd rfl e, fun e => absurd ⟨hp.2 ⟨e.1, e.2.1⟩, e.2.2⟩ h⟩, fun e => absurd rfl e⟩
end Go.MatM
namespace Go.MatM
open Go Go.Sy Go.Proofs
structure Narrow (d y : RowsD) : Prop where
  v : Valid y
  l : y.l.length = d.l.length
  r : y.r.length = d.r.length
  fit : ∀ i k, fitD y i k = true → fitD d i k = true
  need : need d ≤ need y
  sh : ∀ i k, fitD y i k = true → (shiftD d i k).1 ≤ (shiftD y i k).1 ∧ (shiftD y i k).2 ≤ (shiftD d i k).2
theorem cnt_mono {F G : Nat → Nat → Bool} {L R i k n m : Nat} (h : ∀ a b, G a b = true → F a b = true) (hn : n ≤ m) : cnt G L R i k m ≤ cnt F L R i k n := by
  have e : G = fun a b => F a b && G a b := by
    funext a b
    cases hg : G a b
    · simp
    · simp [h a b hg]
  unfold cnt
  rw [e, chs_filter F G, List.countP_filter]
  refine List.countP_mono_left fun c _ hc => ?_
  simp only [Bool.and_eq_true, decide_eq_true_eq] at *
  omega
theorem canP_mono {F G : Nat → Nat → Bool} {L R n m i k : Nat} (h : ∀ a b, G a b = true → F a b = true) (hn : n ≤ m) (hc : canP G L R m i k) : canP F L R n i k := by
  obtain ⟨c, h1, h2, h3⟩ := hc
  refine ⟨c, ?_, by omega, h3⟩
  rw [Ch_iff] at h1 ⊢
  exact ⟨fun p hp => by have := h1.1 p hp; exact ⟨this.1, this.2.1, this.2.2.1, this.2.2.2.1, h _ _ this.2.2.2.2⟩, h1.2⟩
section
variable {d y : RowsD}
theorem nar_count (hV : Valid d) (h : Narrow d y) : countV y ≤ countV d ∧ countE y = 0 ∧ countE d = 0 := by
  have h1 := (okRows_iff d).2 hV
  have h2 := (okRows_iff y).2 h.v
  unfold countV countE
  rw [if_pos h1, if_pos h2, if_pos h1, if_pos h2, h.l, h.r]
  have := cnt_mono (F := fitD d) (G := fitD y) (L := d.l.length) (R := d.r.length) (i := 0) (k := 0) h.fit h.need
  exact ⟨by omega, rfl, rfl⟩
theorem op_count (hV : Valid d) : opE d true = 0 ↔ 0 < countV d := by
  have h1 := (okRows_iff d).2 hV
  rw [opE_zero, isD_cnt]
  unfold countV
  rw [if_pos h1]
  constructor
  · rintro ⟨_, _, h⟩; omega
  · intro h; exact ⟨h1, rfl, by omega⟩
theorem nar_can (h : Narrow d y) {i k : Nat} (hi : i < d.l.length) (hb : (canS y i).testBit k = true) : (canS d i).testBit k = true := by
  rw [canS_bit, Bool.and_eq_true, decide_eq_true_eq] at hb ⊢
  have hk : k < d.r.length := h.r ▸ hb.1
  refine ⟨hk, ?_⟩
  have h2 := (canB_iff (h.l ▸ hi) hb.1).1 hb.2
  rw [h.l, h.r] at h2
  exact (canB_iff hi hk).2 (canP_mono h.fit h.need h2)
theorem nar_andn (h : Narrow d y) {i : Nat} (hi : i < d.l.length) : andn (canS y i) (canS d i) = 0 := by
  apply Nat.eq_of_testBit_eq
  intro k
  unfold andn
  rw [Nat.testBit_xor, Nat.testBit_and, Nat.zero_testBit]
  cases hb : (canS y i).testBit k
  · rfl
  · rw [nar_can h hi hb]; rfl
theorem endsF_mono {p q : Nat → Bool} {f g : Nat → Int × Int} : ∀ {n : Nat} {e : Int × Int}, (∀ k, k < n → p k = true → q k = true ∧ (g k).1 ≤ (f k).1 ∧ (f k).2 ≤ (g k).2) → endsF p f n = some e → ∃ e', endsF q g n = some e' ∧ e'.1 ≤ e.1 ∧ e.2 ≤ e'.2
  | 0, e, _, h => by simp [endsF] at h
  | n + 1, e, hk, h => by
    rw [endsF_step] at h
    have ih := fun e => endsF_mono (n := n) (e := e) (p := p) (q := q) (f := f) (g := g) fun k hk' => hk k (by omega)
    rw [endsF_step]
    by_cases hp : p n = true
    · rw [if_pos hp] at h
      obtain ⟨h1, h2, h3⟩ := hk n (by omega) hp
      rw [if_pos h1]
      cases hq : endsF q g n with
      | none =>
        cases hp2 : endsF p f n with
        | none => rw [hp2] at h; cases h; exact ⟨_, rfl, h2, h3⟩
        | some x => obtain ⟨_, h4, _⟩ := ih x hp2; rw [hq] at h4; cases h4
      | some z =>
        refine ⟨_, rfl, ?_⟩
        cases hp2 : endsF p f n with
        | none => rw [hp2] at h; cases h; simp only; omega
        | some x =>
          rw [hp2] at h; cases h
          obtain ⟨z', h4, h5, h6⟩ := ih x hp2
          rw [hq] at h4; cases h4
          simp only; omega
    · rw [if_neg hp] at h
      obtain ⟨z, h4, h5, h6⟩ := ih e h
      split
      · rw [h4]
        refine ⟨_, rfl, ?_⟩
        simp only; omega
      · exact ⟨z, h4, h5, h6⟩
theorem nar_shift (h : Narrow d y) (hV : Valid d) {i : Nat} (hi : i < d.l.length) (h0 : shiftE y i = 0) : shiftE d i = 0 ∧ (shiftV d i).1 ≤ (shiftV y i).1 ∧ (shiftV y i).2 ≤ (shiftV d i).2 := by
  have hop : ∀ x : RowsD, x.l.length = d.l.length → leftOk x i = true := fun x hx => by
    unfold leftOk inB; simp only [Bool.and_eq_true, decide_eq_true_eq]; omega
  have e1 : opE y (leftOk y i) = 0 := by
    unfold shiftE at h0
    by_cases e : opE y (leftOk y i) = 0
    · exact e
    · rw [if_neg e] at h0; exact absurd h0 e
  rw [hop y h.l] at e1
  have e2 : opE d true = 0 := (op_count hV).2 (by have := (op_count h.v).1 e1; have := nar_count hV h; omega)
  unfold shiftE at h0
  rw [hop y h.l, if_pos e1, Int.toNat_natCast] at h0
  cases hs : shiftO y i with
  | none => rw [hs] at h0; simp at h0
  | some e =>
    have hs' := hs
    unfold shiftO at hs'
    rw [h.r] at hs'
    obtain ⟨e', h4, h5, h6⟩ := endsF_mono (q := fun k => (canS d i).testBit k) (g := shiftD d i) (fun k _ hb => ⟨nar_can h hi hb, h.sh i k (can_fit hb).2⟩) hs'
    have h4' : shiftO d i = some e' := h4
    refine ⟨?_, ?_⟩
    · unfold shiftE; rw [hop d rfl, if_pos e2, Int.toNat_natCast, h4']; rfl
    · unfold shiftV; rw [hop d rfl, hop y h.l, if_pos e1, if_pos e2, Int.toNat_natCast, h4', hs]; exact ⟨h5, h6⟩
/-- Fewer may be hidden. -/
theorem nar_few (hV : Valid d) {h : Int} (h0 : 0 ≤ h) (h1 : h ≤ d.hid) : Narrow d (setH d h) := by
  have h20 := hV.h2
  have hV2 := setH_valid hV h0 (by omega)
  refine ⟨hV2, rfl, rfl, fun _ _ h => h, ?_, fun i k _ => ⟨Int.le_refl _, Int.le_refl _⟩⟩
  rw [need_iff hV]
  have := (need_iff hV2 (need (setH d h))).1 (Nat.le_refl _)
  have h2 : (setH d h).hid = h := rfl
  have h3 : (setH d h).l.length = d.l.length := rfl
  have h4 : (setH d h).r.length = d.r.length := rfl
  rw [h2, h3, h4] at this
  omega
theorem need_same {d y : RowsD} (h1 : y.l.length = d.l.length) (h2 : y.r.length = d.r.length) (h3 : y.hid = d.hid) : MatM.need y = MatM.need d := by
  unfold MatM.need needI; rw [h1, h2, h3]
/-- The span of shifts is narrower. -/
theorem nar_span (hV : Valid d) {lo : Int} (h0 : d.lo ≤ lo) (h1 : lo ≤ d.hi) : Narrow d { d with lo := lo } := by
  have := hV.s1
  refine ⟨⟨hV.nl, hV.nr, hV.ml, hV.mr, by show -65536 ≤ lo; omega, h1, hV.s3, hV.h1, hV.h2⟩, rfl, rfl, fun i k hf => ?_, Nat.le_of_eq (need_same (d := d) (y := { d with lo := lo }) rfl rfl rfl).symm, fun i k hf => ?_⟩
  · unfold fitD at hf ⊢
    split at hf
    · rename_i a b ha hb
      have ha : d.l[i]? = some a := ha
      have hb : d.r[k]? = some b := hb
      rw [ha, hb]
      unfold fitM at hf ⊢
      simp only [] at hf
      simp only [Bool.and_eq_true, decide_eq_true_eq] at hf ⊢
      omega
    · cases hf
  · unfold shiftD
    simp only
    split
    · simp only; omega
    · exact ⟨Int.le_refl _, Int.le_refl _⟩
def thinM (m : Mk) (x z : Int) : Mk := ⟨min m.ah (m.al + x), m.ah, m.tl, max m.tl (m.th - z)⟩
/-- One mark is narrower. -/
theorem nar_thin (hV : Valid d) {w : Nat} {m : Mk} {x z : Int} (hw : d.l[w]? = some m) (hx : 0 ≤ x) (hz : 0 ≤ z) : Narrow d { d with l := d.l.set w (thinM m x z) } := by
  have hm := okM_iff.1 (hV.ml m (List.mem_of_getElem? hw))
  have hwl := len_of hw
  have key : ∀ (i : Nat) (a : Mk), (d.l.set w (thinM m x z))[i]? = some a → ∃ a0 : Mk, d.l[i]? = some a0 ∧ a0.al ≤ a.al ∧ a.ah = a0.ah ∧ a.tl = a0.tl ∧ a.th ≤ a0.th := fun i a ha => by
    rw [List.getElem?_set] at ha
    split at ha
    · rename_i e
      cases ha
      exact ⟨m, e ▸ hw, by show m.al ≤ min m.ah (m.al + x); omega, rfl, rfl, by show max m.tl (m.th - z) ≤ m.th; omega⟩
    · exact ⟨a, ha, Int.le_refl _, rfl, rfl, Int.le_refl _⟩
  have hlen : (d.l.set w (thinM m x z)).length = d.l.length := List.length_set
  refine ⟨⟨by rw [hlen]; exact hV.nl, hV.nr, fun a ha => ?_, hV.mr, hV.s1, hV.s2, hV.s3, hV.h1, hV.h2⟩, hlen, rfl, fun i k hf => ?_, Nat.le_of_eq (need_same (d := d) (y := { d with l := d.l.set w (thinM m x z) }) hlen rfl rfl).symm, fun i k hf => ?_⟩
  · rcases List.mem_or_eq_of_mem_set ha with h | h
    · exact hV.ml a h
    · subst h
      rw [okM_iff]
      unfold thinM; simp only; omega
  · unfold fitD at hf ⊢
    simp only at hf
    split at hf
    · rename_i a b ha hb
      obtain ⟨a0, h1, h2, h3, h4, h5⟩ := key i a ha
      rw [h1, hb]
      unfold fitM at hf ⊢
      simp only [Bool.and_eq_true, decide_eq_true_eq] at hf ⊢
      omega
    · cases hf
  · unfold fitD at hf
    simp only at hf
    split at hf
    · rename_i a b ha hb
      obtain ⟨a0, h1, h2, h3, h4, h5⟩ := key i a ha
      rw [shiftD_eq h1 hb, shiftD_eq (d := { d with l := d.l.set w (thinM m x z) }) ha hb]
      simp only; omega
    · cases hf
end
end Go.MatM
namespace Go.MatM
open Go Go.Sy Go.Proofs
theorem cnt_equiv {F G : Nat → Nat → Bool} {L R L' R' n : Nat} (g g' : List Pr → List Pr) (h1 : ∀ c, Ch F L R 0 0 c → Ch G L' R' 0 0 (g c)) (h2 : ∀ c, Ch G L' R' 0 0 c → Ch F L R 0 0 (g' c)) (h3 : ∀ c, Ch F L R 0 0 c → g' (g c) = c) (h4 : ∀ c, Ch G L' R' 0 0 c → g (g' c) = c)
    (hl : ∀ c, (g c).length = c.length) : cnt F L R 0 0 n = cnt G L' R' 0 0 n := by
  unfold cnt
  rw [countP_len, countP_len, ← List.length_map g]
  refine len_of_mem (nodup_map_inj (fun x hx y hy e => ?_) (List.Pairwise.filter _ (chs_nodup ..))) (List.Pairwise.filter _ (chs_nodup ..)) fun c => ?_
  · have hx' := mem_chs.1 (List.mem_filter.1 hx).1
    have hy' := mem_chs.1 (List.mem_filter.1 hy).1
    rw [← h3 x hx', ← h3 y hy', e]
  · simp only [List.mem_map, List.mem_filter, mem_chs, decide_eq_true_eq]
    constructor
    · rintro ⟨d, ⟨hd, hn⟩, rfl⟩
      exact ⟨h1 d hd, by rw [hl]; exact hn⟩
    · rintro ⟨hc, hn⟩
      refine ⟨g' c, ⟨h2 c hc, ?_⟩, h4 c hc⟩
      have := hl (g' c)
      rw [h4 c hc] at this
      omega
theorem mos_equiv {F G : Nat → Nat → Bool} {L R L' R' : Nat} (g g' : List Pr → List Pr) (h1 : ∀ c, Ch F L R 0 0 c → Ch G L' R' 0 0 (g c)) (h2 : ∀ c, Ch G L' R' 0 0 c → Ch F L R 0 0 (g' c)) (hl : ∀ c, (g c).length = c.length) (hl' : ∀ c, (g' c).length = c.length) : mos F L R 0 0 = mos G L' R' 0 0 := by
  apply Nat.le_antisymm
  · obtain ⟨c, hc, e⟩ := mos_ex F L R 0 0
    rw [← e, ← hl c]; exact le_mos (h1 c hc)
  · obtain ⟨c, hc, e⟩ := mos_ex G L' R' 0 0
    rw [← e, ← hl' c]; exact le_mos (h2 c hc)
/-- Left and right change places. -/
def swp (c : List Pr) : List Pr := c.map fun p => (p.2, p.1)
theorem swp_swp (c : List Pr) : swp (swp c) = c := by
  unfold swp; rw [List.map_map]
  exact List.map_id c
theorem swp_len (c : List Pr) : (swp c).length = c.length := by simp [swp]
theorem Ch_swp {F G : Nat → Nat → Bool} {L R : Nat} (h : ∀ a b, a < L → b < R → F a b = true → G b a = true) {c : List Pr} (hc : Ch F L R 0 0 c) : Ch G R L 0 0 (swp c) := by
  rw [Ch_iff] at hc ⊢
  constructor
  · intro p hp
    obtain ⟨q, hq, rfl⟩ := List.mem_map.1 hp
    have := hc.1 q hq
    exact ⟨Nat.zero_le _, this.2.2.2.1, Nat.zero_le _, this.2.1, h _ _ this.2.1 this.2.2.2.1 this.2.2.2.2⟩
  · unfold swp
    rw [List.pairwise_map]
    exact hc.2.imp fun {a b} hab => ⟨hab.2, hab.1⟩
/-- Told from the other end. -/
def mir (L R : Nat) (c : List Pr) : List Pr := (c.map fun p => (L - 1 - p.1, R - 1 - p.2)).reverse
theorem mir_len (L R : Nat) (c : List Pr) : (mir L R c).length = c.length := by simp [mir]
theorem Ch_mir {F G : Nat → Nat → Bool} {L R : Nat} (h : ∀ a b, a < L → b < R → F a b = true → G (L - 1 - a) (R - 1 - b) = true) {c : List Pr} (hc : Ch F L R 0 0 c) : Ch G L R 0 0 (mir L R c) := by
  rw [Ch_iff] at hc ⊢
  constructor
  · intro p hp
    unfold mir at hp
    rw [List.mem_reverse] at hp
    obtain ⟨q, hq, rfl⟩ := List.mem_map.1 hp
    have := hc.1 q hq
    exact ⟨Nat.zero_le _, by show L - 1 - q.1 < L; omega, Nat.zero_le _, by show R - 1 - q.2 < R; omega, h _ _ this.2.1 this.2.2.2.1 this.2.2.2.2⟩
  · unfold mir
    rw [List.pairwise_reverse, List.pairwise_map]
    refine List.Pairwise.imp_of_mem ?_ hc.2
    intro a b ha hb hab
    have h1 := hc.1 a ha
    have h2 := hc.1 b hb
    exact ⟨by show L - 1 - b.1 < L - 1 - a.1; omega, by show R - 1 - b.2 < R - 1 - a.2; omega⟩
theorem mir_mir {F : Nat → Nat → Bool} {L R : Nat} {c : List Pr} (hc : Ch F L R 0 0 c) : mir L R (mir L R c) = c := by
  unfold mir
  rw [List.map_reverse, List.reverse_reverse, List.map_map]
  conv => rhs; rw [← List.map_id c]
  refine List.map_congr_left fun q hq => ?_
  have := (Ch_iff.1 hc).1 q hq
  show (L - 1 - (L - 1 - q.1), R - 1 - (R - 1 - q.2)) = q
  rw [show L - 1 - (L - 1 - q.1) = q.1 by omega, show R - 1 - (R - 1 - q.2) = q.2 by omega]
def tX (d : RowsD) : RowsD := { l := d.r, r := d.l, lo := -d.hi, hi := -d.lo, hid := d.hid }
def mirM (m : Mk) : Mk := ⟨65536 - m.ah, 65536 - m.al, m.tl, m.th⟩
def mirL (l : List Mk) : List Mk := (l.map mirM).reverse
def tY (d : RowsD) : RowsD := { l := mirL d.l, r := mirL d.r, lo := -d.hi, hi := -d.lo, hid := d.hid }
theorem mirL_len (l : List Mk) : (mirL l).length = l.length := by simp [mirL]
theorem mirL_get {l : List Mk} {i : Nat} (hi : i < l.length) {m : Mk} (h : l[l.length - 1 - i]? = some m) : (mirL l)[i]? = some (mirM m) := by
  unfold mirL
  rw [List.getElem?_reverse (by simpa using hi), List.length_map, List.getElem?_map, h]; rfl
theorem okM_mir {m : Mk} (h : okM m = true) : okM (mirM m) = true := by
  rw [okM_iff] at h ⊢
  show 0 ≤ 65536 - m.ah ∧ 65536 - m.ah ≤ 65536 - m.al ∧ 65536 - m.al ≤ 65536 ∧ 0 ≤ m.tl ∧ m.tl ≤ m.th ∧ m.th ≤ 1000
  omega
section
variable {d : RowsD}
theorem tX_valid (hV : Valid d) : Valid (tX d) := ⟨hV.nr, hV.nl, hV.mr, hV.ml, by have := hV.s3; show -65536 ≤ -d.hi; omega, by have := hV.s2; show -d.hi ≤ -d.lo; omega, by have := hV.s1; show -d.lo ≤ 65536; omega, hV.h1, hV.h2⟩
theorem tY_valid (hV : Valid d) : Valid (tY d) := ⟨by show (mirL d.l).length ≤ 10; rw [mirL_len]; exact hV.nl, by show (mirL d.r).length ≤ 10; rw [mirL_len]; exact hV.nr,
  fun m hm => by
    have hm : m ∈ mirL d.l := hm
    unfold mirL at hm; rw [List.mem_reverse] at hm
    obtain ⟨q, hq, rfl⟩ := List.mem_map.1 hm
    exact okM_mir (hV.ml q hq),
  fun m hm => by
    have hm : m ∈ mirL d.r := hm
    unfold mirL at hm; rw [List.mem_reverse] at hm
    obtain ⟨q, hq, rfl⟩ := List.mem_map.1 hm
    exact okM_mir (hV.mr q hq),
  by have := hV.s3; show -65536 ≤ -d.hi; omega, by have := hV.s2; show -d.hi ≤ -d.lo; omega, by have := hV.s1; show -d.lo ≤ 65536; omega, hV.h1, hV.h2⟩
theorem fitM_swap (lo hi : Int) (a b : Mk) : fitM (-hi) (-lo) b a = fitM lo hi a b := by
  unfold fitM
  rw [Bool.eq_iff_iff]
  simp only [Bool.and_eq_true, decide_eq_true_eq]
  omega
theorem fit_tX (d : RowsD) (i k : Nat) : fitD (tX d) k i = fitD d i k := by
  unfold fitD
  show (match d.r[k]?, d.l[i]? with | some a, some b => fitM (-d.hi) (-d.lo) a b | _, _ => false) = _
  cases h1 : d.r[k]? <;> cases h2 : d.l[i]? <;> simp only []
  exact fitM_swap _ _ _ _
theorem fit_tY {i k : Nat} (hi : i < d.l.length) (hk : k < d.r.length) : fitD (tY d) (d.l.length - 1 - i) (d.r.length - 1 - k) = fitD d i k := by
  obtain ⟨a, ha⟩ := ex_of hi
  obtain ⟨b, hb⟩ := ex_of hk
  have h1 : (mirL d.l)[d.l.length - 1 - i]? = some (mirM a) := mirL_get (by omega) (by rw [show d.l.length - 1 - (d.l.length - 1 - i) = i by omega]; exact ha)
  have h2 : (mirL d.r)[d.r.length - 1 - k]? = some (mirM b) := mirL_get (by omega) (by rw [show d.r.length - 1 - (d.r.length - 1 - k) = k by omega]; exact hb)
  have e1 : fitD (tY d) (d.l.length - 1 - i) (d.r.length - 1 - k) = fitM (-d.hi) (-d.lo) (mirM a) (mirM b) := by
    unfold fitD; show (match (mirL d.l)[d.l.length - 1 - i]?, (mirL d.r)[d.r.length - 1 - k]? with | some a, some b => fitM (-d.hi) (-d.lo) a b | _, _ => false) = _
    rw [h1, h2]
  have e2 : fitD d i k = fitM d.lo d.hi a b := by simp [fitD, ha, hb]
  rw [e1, e2]
  unfold fitM mirM
  rw [Bool.eq_iff_iff]
  simp only [Bool.and_eq_true, decide_eq_true_eq]
  omega
theorem need_tX (d : RowsD) : need (tX d) = need d := by
  unfold need needI
  show (((d.r.length + d.l.length : Nat) - d.hid + 1).tdiv 2).toNat = _
  rw [Nat.add_comm]
theorem need_tY (d : RowsD) : need (tY d) = need d := need_same (mirL_len _) (mirL_len _) rfl
theorem ch_tX {c : List Pr} : Ch (fitD d) d.l.length d.r.length 0 0 c → Ch (fitD (tX d)) (tX d).l.length (tX d).r.length 0 0 (swp c) := Ch_swp (fun a b _ _ h => by rw [fit_tX]; exact h)
theorem ch_tX' {c : List Pr} : Ch (fitD (tX d)) (tX d).l.length (tX d).r.length 0 0 c → Ch (fitD d) d.l.length d.r.length 0 0 (swp c) := Ch_swp (fun a b _ _ h => by rw [fit_tX] at h; exact h)
theorem cnt_tX (n : Nat) : cnt (fitD (tX d)) (tX d).l.length (tX d).r.length 0 0 n = cnt (fitD d) d.l.length d.r.length 0 0 n :=
  (cnt_equiv swp swp (fun _ h => ch_tX h) (fun _ h => ch_tX' h) (fun c _ => swp_swp c) (fun c _ => swp_swp c) swp_len).symm
theorem mos_tX : mosD (tX d) = mosD d := (mos_equiv swp swp (fun _ h => ch_tX h) (fun _ h => ch_tX' h) swp_len swp_len).symm
theorem ch_tY {c : List Pr} (h : Ch (fitD d) d.l.length d.r.length 0 0 c) : Ch (fitD (tY d)) (tY d).l.length (tY d).r.length 0 0 (mir d.l.length d.r.length c) := by
  have e1 : (tY d).l.length = d.l.length := mirL_len _
  have e2 : (tY d).r.length = d.r.length := mirL_len _
  rw [e1, e2]
  exact Ch_mir (fun a b ha hb h => by rw [fit_tY ha hb]; exact h) h
theorem ch_tY' {c : List Pr} (h : Ch (fitD (tY d)) (tY d).l.length (tY d).r.length 0 0 c) : Ch (fitD d) d.l.length d.r.length 0 0 (mir d.l.length d.r.length c) := by
  have e1 : (tY d).l.length = d.l.length := mirL_len _
  have e2 : (tY d).r.length = d.r.length := mirL_len _
  rw [e1, e2] at h
  refine Ch_mir (fun a b ha hb h => ?_) h
  have := fit_tY (d := d) (i := d.l.length - 1 - a) (k := d.r.length - 1 - b) (by omega) (by omega)
  rw [show d.l.length - 1 - (d.l.length - 1 - a) = a by omega, show d.r.length - 1 - (d.r.length - 1 - b) = b by omega] at this
  rw [← this]; exact h
theorem cnt_tY (n : Nat) : cnt (fitD (tY d)) (tY d).l.length (tY d).r.length 0 0 n = cnt (fitD d) d.l.length d.r.length 0 0 n :=
  (cnt_equiv (mir d.l.length d.r.length) (mir d.l.length d.r.length) (fun _ h => ch_tY h) (fun _ h => ch_tY' h) (fun c h => mir_mir h) (fun c h => by
    have e1 : (tY d).l.length = d.l.length := mirL_len _
    have e2 : (tY d).r.length = d.r.length := mirL_len _
    rw [e1, e2] at h; exact mir_mir h) (mir_len _ _)).symm
theorem turn_count (hV : Valid d) : countV (tX d) = countV d ∧ countV (tY d) = countV d ∧ countE (tX d) = 0 ∧ countE (tY d) = 0 ∧ countE d = 0 := by
  have h1 := (okRows_iff d).2 hV
  have h2 := (okRows_iff _).2 (tX_valid hV)
  have h3 := (okRows_iff _).2 (tY_valid hV)
  unfold countV countE
  simp only [h1, h2, h3, if_true]
  rw [need_tX, need_tY, cnt_tX, cnt_tY]
  exact ⟨rfl, rfl, trivial, trivial, trivial⟩
theorem turn_op (hV : Valid d) : opE (tX d) true = opE d true := by
  have h1 := (okRows_iff d).2 hV
  have h2 := (okRows_iff _).2 (tX_valid hV)
  have h3 : isD (tX d) = isD d := by
    rw [Bool.eq_iff_iff, isD_iff, isD_iff, need_tX, mos_tX]
  unfold opE; rw [h1, h2, h3]
theorem turn_few (hV : Valid d) : fewH (tX d) = fewH d := by
  unfold fewH
  rw [turn_op hV, mos_tX]
  show (if opE d true = 0 then (((d.r.length + d.l.length : Nat) : Int) - 2 * (mosD d : Nat)) else 0) = _
  rw [Nat.add_comm]
theorem hidL_tX {n i : Nat} : hidL (fitD (tX d)) (tX d).l.length (tX d).r.length n i ↔ hidR (fitD d) d.l.length d.r.length n i := by
  constructor
  · rintro ⟨c, h1, h2, h3⟩
    refine ⟨swp c, ch_tX' h1, by rw [swp_len]; exact h2, fun p hp => ?_⟩
    obtain ⟨q, hq, rfl⟩ := List.mem_map.1 hp
    exact h3 q hq
  · rintro ⟨c, h1, h2, h3⟩
    refine ⟨swp c, ch_tX h1, by rw [swp_len]; exact h2, fun p hp => ?_⟩
    obtain ⟨q, hq, rfl⟩ := List.mem_map.1 hp
    exact h3 q hq
theorem hidR_tX {n i : Nat} : hidR (fitD (tX d)) (tX d).l.length (tX d).r.length n i ↔ hidL (fitD d) d.l.length d.r.length n i := by
  constructor
  · rintro ⟨c, h1, h2, h3⟩
    refine ⟨swp c, ch_tX' h1, by rw [swp_len]; exact h2, fun p hp => ?_⟩
    obtain ⟨q, hq, rfl⟩ := List.mem_map.1 hp
    exact h3 q hq
  · rintro ⟨c, h1, h2, h3⟩
    refine ⟨swp c, ch_tX h1, by rw [swp_len]; exact h2, fun p hp => ?_⟩
    obtain ⟨q, hq, rfl⟩ := List.mem_map.1 hp
    exact h3 q hq
theorem turn_hide : hideA (tX d) = hideB d ∧ hideB (tX d) = hideA d := by
  constructor
  · refine setF_congr fun i _ => ?_
    rw [Bool.eq_iff_iff]
    unfold hidD
    rw [hidB_l, hidB_r, need_tX]; exact hidL_tX
  · refine setF_congr fun i _ => ?_
    rw [Bool.eq_iff_iff]
    unfold hidD
    rw [hidB_r, hidB_l, need_tX]; exact hidR_tX
theorem turn_can {i k : Nat} (hi : i < d.l.length) (hk : k < d.r.length) : (canS (tX d) k).testBit i = (canS d i).testBit k := by
  rw [canS_bit, canS_bit, decide_eq_true hk, decide_eq_true (p := i < (tX d).r.length) hi, Bool.true_and, Bool.true_and, Bool.eq_iff_iff, canB_iff hi hk, canB_iff (show k < (tX d).l.length from hk) (show i < (tX d).r.length from hi), need_tX]
  constructor
  · rintro ⟨c, h1, h2, h3⟩
    exact ⟨swp c, ch_tX' h1, by rw [swp_len]; exact h2, List.mem_map.2 ⟨_, h3, rfl⟩⟩
  · rintro ⟨c, h1, h2, h3⟩
    exact ⟨swp c, ch_tX h1, by rw [swp_len]; exact h2, List.mem_map.2 ⟨_, h3, rfl⟩⟩
end
end Go.MatM
namespace Go.MatM
open Go Go.Sy Go.Proofs
theorem sum_by {α : Type} {f : α → Nat} {g : Nat → Nat} : ∀ (l : List α) (H : Nat), ((List.range (H + 1)).map fun h => l.countP (fun c => decide (f c = h)) * g h).sum = (l.map fun c => if f c ≤ H then g (f c) else 0).sum
  | [], H => by
    simp only [List.countP_nil, Nat.zero_mul, List.map_nil, List.sum_nil]
    exact List.sum_eq_zero_iff_forall_eq_nat.2 (by intro x hx; obtain ⟨k, _, rfl⟩ := List.mem_map.1 hx; rfl)
  | c :: l, H => by
    have ih := sum_by (f := f) (g := g) l H
    have e : ((List.range (H + 1)).map fun h => (c :: l).countP (fun c => decide (f c = h)) * g h).sum = ((List.range (H + 1)).map fun h => l.countP (fun c => decide (f c = h)) * g h + (if h = f c then g (f c) else 0)).sum := by
      congr 1
      refine List.map_congr_left fun h _ => ?_
      rw [List.countP_cons, Nat.add_mul]
      congr 1
      by_cases hc : f c = h
      · subst hc; simp
      · rw [if_neg (fun e : h = f c => hc e.symm), decide_eq_false hc]; simp
    have key : ∀ (n k v : Nat), ((List.range n).map fun h => if h = k then v else 0).sum = if k < n then v else 0 := by
      intro n
      induction n with
      | zero => intro k v; simp
      | succ n ihn =>
        intro k v
        rw [List.range_succ, List.map_append, List.sum_append, ihn]
        simp only [List.map_cons, List.map_nil, List.sum_cons, List.sum_nil]
        by_cases h1 : k < n
        · rw [if_pos h1, if_neg (by omega), if_pos (by omega)]; rfl
        · by_cases h2 : n = k
          · rw [if_neg h1, if_pos h2, if_pos (by omega)]; omega
          · rw [if_neg h1, if_neg h2, if_neg (by omega)]; rfl
    rw [e, sum_add', ih, key, List.map_cons, List.sum_cons, Nat.add_comm]
    congr 1
    by_cases h : f c ≤ H
    · rw [if_pos h, if_pos (by omega)]
    · rw [if_neg h, if_neg (by omega)]
theorem countP_congr' {α : Type} {p q : α → Bool} : ∀ {l : List α}, (∀ x ∈ l, p x = q x) → l.countP p = l.countP q
  | [], _ => rfl
  | a :: l, h => by rw [List.countP_cons, List.countP_cons, countP_congr' (l := l) fun x hx => h x (.tail _ hx), h a (.head _)]
/-- How many marks a chain hides, from two marks on. -/
def hidC (a b : Nat) (c : List Pr) : Nat := a + b - 2 * c.length
/-- How many chains hide so many marks at most. -/
def atM (F : Nat → Nat → Bool) (L R i k h : Nat) : Nat := (chs F L R i k).countP fun c => decide (hidC (L - i) (R - k) c ≤ h)
theorem atM_step {F : Nat → Nat → Bool} {L R i k h : Nat} : atM F L R i k h = (if h = 0 then 0 else atM F L R i k (h - 1)) + (chs F L R i k).countP fun c => decide (hidC (L - i) (R - k) c = h) := by
  unfold atM
  by_cases h0 : h = 0
  · rw [if_pos h0, Nat.zero_add]
    subst h0
    congr 1; funext c; simp
  · rw [if_neg h0]
    refine countP_two (fun c _ => ?_) (fun c _ => ?_)
    · rw [Bool.eq_iff_iff]; simp only [Bool.or_eq_true, decide_eq_true_eq]; omega
    · simp only [decide_eq_true_eq]; omega
/-- Ways with a pair, by sums over what is hidden before it. -/
theorem wP_sum {F : Nat → Nat → Bool} {L R i k n H : Nat} (hi : i < L) (hk : k < R) (hF : F i k = true) (hn : ∀ m, n ≤ m ↔ L + R ≤ H + 2 * m) :
    wP F L R i k n = ((List.range (H + 1)).map fun h => (chs F i k 0 0).countP (fun c => decide (hidC i k c = h)) * atM F L R (i + 1) (k + 1) (H - h)).sum := by
  rw [wP_split hi hk hF, sum_by (f := hidC i k) (g := fun h => atM F L R (i + 1) (k + 1) (H - h))]
  congr 1
  refine List.map_congr_left fun c hc => ?_
  have hcl := (mem_chs.1 hc).len
  have e : ∀ b ∈ chs F L R (i + 1) (k + 1), decide (n - 1 - c.length ≤ b.length) = decide (hidC i k c ≤ H ∧ hidC (L - (i + 1)) (R - (k + 1)) b ≤ H - hidC i k c) := fun b hb => by
    have hbl := (mem_chs.1 hb).len
    have h1 := hn (b.length + 1 + c.length)
    rw [decide_eq_decide]
    unfold hidC
    constructor
    · intro h
      have h2 := h1.1 (by omega)
      omega
    · intro h
      have h2 := h1.2 (by omega)
      omega
  unfold cnt atM
  by_cases hh : hidC i k c ≤ H
  · rw [if_pos hh]
    refine countP_congr' fun b hb => ?_
    rw [e b hb]
    simp [hh]
  · rw [if_neg hh]
    rw [List.countP_eq_zero]
    intro b hb
    rw [e b hb]
    simp [hh]
end Go.MatM
namespace Go.MatM
open Go Go.Sy Go.Proofs
def rmD (d : RowsD) (i : Nat) : RowsD := ⟨d.l.take i ++ d.l.drop (i + 1), d.r, d.lo, d.hi, d.hid - 1⟩
def befD (d : RowsD) (i k : Nat) (h : Int) : RowsD := ⟨d.l.take i, d.r.take k, d.lo, d.hi, h⟩
def aftD (d : RowsD) (i k : Nat) (h : Int) : RowsD := ⟨d.l.drop (i + 1), d.r.drop (k + 1), d.lo, d.hi, h⟩
theorem need_le {d : RowsD} (h1 : d.hid ≤ 20) (n : Nat) : need d ≤ n ↔ ((d.l.length + d.r.length : Nat) : Int) - 2 * (n : Nat) ≤ d.hid := by
  unfold need needI
  have := Int.tdiv_eq_ediv (a := ((d.l.length + d.r.length : Nat) - d.hid + 1)) (b := 2)
  rw [this, show Int.sign 2 = 1 from rfl]
  split <;> omega
theorem rm_len {d : RowsD} {i : Nat} (hi : i < d.l.length) : (rmD d i).l.length = d.l.length - 1 := by
  show (d.l.take i ++ d.l.drop (i + 1)).length = _
  rw [List.length_append, List.length_take, List.length_drop]; omega
theorem rm_get {d : RowsD} {i : Nat} (hi : i < d.l.length) (a : Nat) : (rmD d i).l[a]? = d.l[sk i a]? := by
  show (d.l.take i ++ d.l.drop (i + 1))[a]? = _
  unfold sk
  rw [List.getElem?_append, List.length_take]
  by_cases h : a < i
  · rw [if_pos (by omega), if_pos h, List.getElem?_take, if_pos h]
  · rw [if_neg (by omega), if_neg h, List.getElem?_drop]
    congr 1; omega
theorem rm_fit {d : RowsD} {i : Nat} (hi : i < d.l.length) (a b : Nat) : fitD (rmD d i) a b = fitD d (sk i a) b := by
  unfold fitD
  rw [rm_get hi]; rfl
theorem rm_valid {d : RowsD} {i : Nat} (hV : Valid d) (hi : i < d.l.length) : okRows (rmD d i) = decide (1 ≤ d.hid) := by
  rw [Bool.eq_iff_iff, okRows_iff, decide_eq_true_eq]
  constructor
  · intro h; have : (0 : Int) ≤ d.hid - 1 := h.h1; omega
  · intro h
    refine ⟨by rw [rm_len hi]; have := hV.nl; omega, hV.nr, fun m hm => ?_, hV.mr, hV.s1, hV.s2, hV.s3, by show (0 : Int) ≤ d.hid - 1; omega, by show d.hid - 1 ≤ (20 : Int); have := hV.h2; omega⟩
    rcases List.mem_append.1 hm with hm | hm
    · exact hV.ml m (List.mem_of_mem_take hm)
    · exact hV.ml m (List.mem_of_mem_drop hm)
theorem need_rm {d : RowsD} {i : Nat} (hi : i < d.l.length) : need (rmD d i) = need d := by
  unfold need needI
  rw [rm_len hi]
  congr 2
  show ((d.l.length - 1 + d.r.length : Nat) : Int) - (d.hid - 1) + 1 = _
  omega
theorem rm_count {d : RowsD} {i : Nat} (hV : Valid d) (hi : i < d.l.length) : hidN d i = if 1 ≤ d.hid then countV (rmD d i) else 0 := by
  have e : hidN d i = ((wH (fitD d) d.l.length d.r.length i (need d) : Nat) : Int) := by unfold hidN; rw [wH_eq]
  rw [e]
  by_cases h : 1 ≤ d.hid
  · rw [if_pos h]
    unfold countV
    rw [rm_valid hV hi, decide_eq_true h, if_pos rfl, need_rm hi, rm_len hi, ← wH_sk hi, cnt_congr (fun a b _ _ => rm_fit hi a b)]
    rfl
  · rw [if_neg h]
    have h0 : d.hid = 0 := by have := hV.h1; omega
    rw [← wH_sk hi]
    unfold cnt
    rw [List.countP_eq_zero.2]
    · rfl
    intro c hc
    have hl := (mem_chs.1 hc).len
    have := (need_le (d := d) hV.h2 c.length)
    simp only [decide_eq_true_eq]
    intro hn
    have := this.1 hn
    omega
theorem bef_valid {d : RowsD} {i k : Nat} {h : Int} (hV : Valid d) (h0 : 0 ≤ h) (h1 : h ≤ d.hid) : Valid (befD d i k h) :=
  ⟨by show (d.l.take i).length ≤ 10; rw [List.length_take]; have := hV.nl; omega, by show (d.r.take k).length ≤ 10; rw [List.length_take]; have := hV.nr; omega,
   fun m hm => hV.ml m (List.mem_of_mem_take hm), fun m hm => hV.mr m (List.mem_of_mem_take hm), hV.s1, hV.s2, hV.s3, h0, by show h ≤ 20; have := hV.h2; omega⟩
theorem aft_valid {d : RowsD} {i k : Nat} {h : Int} (hV : Valid d) (h0 : 0 ≤ h) (h1 : h ≤ d.hid) : Valid (aftD d i k h) :=
  ⟨by show (d.l.drop (i + 1)).length ≤ 10; rw [List.length_drop]; have := hV.nl; omega, by show (d.r.drop (k + 1)).length ≤ 10; rw [List.length_drop]; have := hV.nr; omega,
   fun m hm => hV.ml m (List.mem_of_mem_drop hm), fun m hm => hV.mr m (List.mem_of_mem_drop hm), hV.s1, hV.s2, hV.s3, h0, by show h ≤ 20; have := hV.h2; omega⟩
theorem bef_fit {d : RowsD} {i k : Nat} {h : Int} {a b : Nat} (ha : a < i) (hb : b < k) : fitD (befD d i k h) a b = fitD d a b := by
  unfold fitD
  show (match (d.l.take i)[a]?, (d.r.take k)[b]? with
    | some a, some b => fitM d.lo d.hi a b
    | _, _ => false) = _
  rw [List.getElem?_take, List.getElem?_take, if_pos ha, if_pos hb]; rfl
theorem aft_fit {d : RowsD} {i k : Nat} {h : Int} {a b : Nat} : fitD (aftD d i k h) a b = fitD d (a + (i + 1)) (b + (k + 1)) := by
  unfold fitD
  show (match (d.l.drop (i + 1))[a]?, (d.r.drop (k + 1))[b]? with
    | some a, some b => fitM d.lo d.hi a b
    | _, _ => false) = _
  rw [List.getElem?_drop, List.getElem?_drop, Nat.add_comm (i + 1) a, Nat.add_comm (k + 1) b]; rfl
theorem bef_count {d : RowsD} {i k h : Nat} (hV : Valid d) (hi : i < d.l.length) (hk : k < d.r.length) (h1 : (h : Int) ≤ d.hid) : countV (befD d i k h) = ((atM (fitD d) i k 0 0 h : Nat) : Int) := by
  have hB := bef_valid (i := i) (k := k) hV (Int.natCast_nonneg h) h1
  unfold countV
  rw [(okRows_iff _).2 hB, if_pos rfl]
  have e1 : (befD d i k h).l.length = i := by show (d.l.take i).length = i; rw [List.length_take]; omega
  have e2 : (befD d i k h).r.length = k := by show (d.r.take k).length = k; rw [List.length_take]; omega
  have hn := need_le (d := befD d i k h) hB.h2
  rw [e1, e2] at *
  rw [cnt_congr (fun a b ha hb => bef_fit ha hb)]
  congr 1
  unfold cnt atM hidC
  refine countP_congr' fun c hc => ?_
  rw [decide_eq_decide, hn]
  show _ ≤ ((h : Nat) : Int) ↔ _
  have := (mem_chs.1 hc).len
  omega
theorem aft_count {d : RowsD} {i k h : Nat} (hV : Valid d) (hi : i < d.l.length) (hk : k < d.r.length) (h1 : (h : Int) ≤ d.hid) : countV (aftD d i k h) = ((atM (fitD d) d.l.length d.r.length (i + 1) (k + 1) h : Nat) : Int) := by
  have hB := aft_valid (i := i) (k := k) hV (Int.natCast_nonneg h) h1
  unfold countV
  rw [(okRows_iff _).2 hB, if_pos rfl]
  have e1 : (aftD d i k h).l.length = d.l.length - (i + 1) := List.length_drop ..
  have e2 : (aftD d i k h).r.length = d.r.length - (k + 1) := List.length_drop ..
  have hn := need_le (d := aftD d i k h) hB.h2
  rw [e1, e2] at *
  rw [cnt_congr (fun a b _ _ => aft_fit), cnt_shift]
  congr 1
  unfold cnt atM hidC
  refine countP_congr' fun c hc => ?_
  rw [decide_eq_decide, hn]
  show _ ≤ ((h : Nat) : Int) ↔ _
  have := (mem_chs.1 hc).len
  omega
/-- How many ways have a pair, as the law sums them. -/
def prodS (d : RowsD) (i k : Nat) (m : Nat) : Int := ((((List.range m).map fun h => (chs (fitD d) i k 0 0).countP (fun c => decide (hidC i k c = h)) * atM (fitD d) d.l.length d.r.length (i + 1) (k + 1) (d.hid.toNat - h)).sum : Nat) : Int)
theorem prodS_step {d : RowsD} {i k m : Nat} (hV : Valid d) (hi : i < d.l.length) (hk : k < d.r.length) (hm : (m : Int) ≤ d.hid) :
    prodS d i k (m + 1) = prodS d i k m + (countV (befD d i k m) - (if m = 0 then 0 else countV (befD d i k ((m : Int) - 1)))) * countV (aftD d i k (d.hid - m)) := by
  unfold prodS
  rw [List.range_succ, List.map_append, List.sum_append, Int.natCast_add]
  congr 1
  have e : d.hid - (m : Int) = ((d.hid.toNat - m : Nat) : Int) := by have := hV.h1; omega
  rw [e, bef_count hV hi hk hm, aft_count hV hi hk (by omega)]
  simp only [List.map_cons, List.map_nil, List.sum_cons, List.sum_nil, Nat.add_zero, Int.natCast_mul]
  congr 1
  have h1 := atM_step (F := fitD d) (L := i) (R := k) (i := 0) (k := 0) (h := m)
  simp only [Nat.sub_zero] at h1
  rw [h1]
  by_cases h0 : m = 0
  · rw [if_pos h0, if_pos h0]; omega
  · rw [if_neg h0, if_neg h0, show (m : Int) - 1 = ((m - 1 : Nat) : Int) by omega, bef_count hV hi hk (by omega)]
    omega
theorem prodS_wP {d : RowsD} {i k : Nat} (hV : Valid d) (hi : i < d.l.length) (hk : k < d.r.length) (hF : fitD d i k = true) : prodS d i k (d.hid.toNat + 1) = ((wP (fitD d) d.l.length d.r.length i k (need d) : Nat) : Int) := by
  unfold prodS
  rw [wP_sum hi hk hF (H := d.hid.toNat)]
  intro m
  rw [need_le hV.h2]
  have := hV.h1
  omega
theorem wP_no {F : Nat → Nat → Bool} {L R i k n : Nat} (h : F i k = false) : wP F L R i k n = 0 := by
  unfold wP
  rw [List.countP_eq_zero]
  intro c hc
  simp only [Bool.and_eq_true, decide_eq_true_eq, not_and]
  intro _ hm
  have := ((Ch_iff.1 (mem_chs.1 hc)).1 _ hm).2.2.2.2
  rw [h] at this; cases this
/-- What is added for a right mark. -/
def pairN (d : RowsD) (i k : Nat) : Int := eitN d i k - hidN d i
theorem pairN_eq {d : RowsD} {i k : Nat} : pairN d i k = ((wP (fitD d) d.l.length d.r.length i k (need d) : Nat) : Int) := by
  unfold pairN eitN hidN
  rw [wHP_eq, wH_eq]; omega
theorem pairN_no {d : RowsD} {i k : Nat} (h : fitD d i k = false) : pairN d i k = 0 := by rw [pairN_eq, wP_no h]; rfl
theorem pairN_yes {d : RowsD} {i k : Nat} (hV : Valid d) (hi : i < d.l.length) (hk : k < d.r.length) (hF : fitD d i k = true) : pairN d i k = prodS d i k (d.hid.toNat + 1) := by rw [pairN_eq, prodS_wP hV hi hk hF]
/-- What is summed up to a right mark. -/
def sumN (d : RowsD) (i : Nat) : Nat → Int
  | 0 => hidN d i
  | k + 1 => sumN d i k + pairN d i k
theorem sumN_all {d : RowsD} {i : Nat} (hV : Valid d) : sumN d i d.r.length = countV d := by
  have : ∀ m, sumN d i m = ((wH (fitD d) d.l.length d.r.length i (need d) + ((List.range m).map fun k => wP (fitD d) d.l.length d.r.length i k (need d)).sum : Nat) : Int) := by
    intro m
    induction m with
    | zero => simp [sumN, hidN, wH_eq]
    | succ m ih =>
      rw [sumN, ih, pairN_eq, List.range_succ, List.map_append, List.sum_append]
      simp
      omega
  rw [this, ← cnt_parts]
  unfold countV
  rw [(okRows_iff _).2 hV, if_pos rfl]
end Go.MatM
