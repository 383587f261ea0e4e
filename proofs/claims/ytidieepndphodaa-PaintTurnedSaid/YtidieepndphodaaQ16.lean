/- Lemmas, in order: What a canvas holds; the checks of the arguments. A canvas that is opened. The sets that a canvas may have lost.. -/
import Derived.Test.YtidieepndphodaaQ15
namespace Go.MatM
open Go Go.Sy Go.Proofs Go.RowKit
/-- A set of the marks of a row. -/
def inS (n : Int) (m : Nat) : Bool := decide (0 ≤ n) && decide (n ≤ ((2 ^ m : Nat) : Int) - 1)
theorem shl_one {m : Nat} : ((2 ^ ((m : Nat) : Int).toNat : Nat) : Int) = ((2 ^ m : Nat) : Int) := by rw [Int.toNat_natCast]
theorem pow_le_10 {m : Nat} (h : m ≤ 10) : 2 ^ m ≤ 1024 := Nat.pow_le_pow_right (n := 2) (by omega) h
/-- The errno that a canvas which cannot be opened tells. -/
def openE (d : RowsD) (p : Int) (b : Bool) : Int := if okCan d p = false then 1 else if b = false then 2 else 0
theorem fitsE_m1 (d : RowsD) : fitsE d (-1) (-1) = if okRows d = false then 1 else 2 := by
  unfold fitsE inB
  simp
theorem open_ok {d : RowsD} {p : Int} (h1 : ¬ fitsE d (-1) (-1) = 1) (h2 : (decide (0 ≤ p) && decide (p ≤ 3)) = true) : okCan d p = true := by
  rw [fitsE_m1] at h1
  unfold okCan
  rw [h2]
  cases h : okRows d <;> simp_all
theorem open_no {d : RowsD} {p : Int} (h2 : (decide (0 ≤ p) && decide (p ≤ 3)) = false) : okCan d p = false := by
  unfold okCan
  rw [h2, Bool.and_false]
theorem open_no2 {d : RowsD} {p : Int} (h1 : fitsE d (-1) (-1) = 1) : okCan d p = false := by
  rw [fitsE_m1] at h1
  unfold okCan
  cases h : okRows d <;> simp_all
theorem okCan_valid {d : RowsD} {p : Int} (h : okCan d p = true) : Valid d ∧ 0 ≤ p ∧ p ≤ 3 := by
  unfold okCan at h
  simp only [Bool.and_eq_true, decide_eq_true_eq] at h
  exact ⟨(okRows_iff d).1 h.1, h.2⟩
theorem MkAt.extM {w w' : World} {sa : Option Addr} {l : List Mk} {M : List Nat} (h : MkAt w sa l) (e : Ext M w w') (hm : ∀ b ∈ M, ∃ es c, w.heap[b]? = some (.map es c)) : MkAt w' sa l := fun i s hi =>
  let ⟨blk, off, c, T, fr, h1, h2, h3⟩ := h i s hi
  ⟨blk, off, c, T, fr, h1, e.getM h2 (fun hb => by obtain ⟨es, c', h4⟩ := hm _ hb; rw [h2] at h4; cases h4), h3⟩
/-- Whether the rows without the marks can be told: what a canvas keeps. -/
def leftB (d : RowsD) (x : Nat × Nat) : Bool := decide (opE (woD d x) true = 0)
abbrev leftV (d : RowsD) (x : Nat × Nat) : Value := .bool (leftB d x)
def oneB (x : Nat × Nat) : Bool := decide (x.1 = 0) || decide (x.2 = 0)
/-- A set of marks that can have been painted over. -/
def isC (d : RowsD) (p : Int) (x : Nat × Nat) : Bool := oneB x && (decide (((pc x.1 : Nat) : Int) + (pc x.2 : Nat) ≤ p) && leftB d x)
theorem isC_two {d : RowsD} {p : Int} {x : Nat × Nat} (h1 : ¬ ((x.1 : Nat) : Int) = 0) (h2 : ¬ ((x.2 : Nat) : Int) = 0) : isC d p x = false := by
  have a1 : ¬ x.1 = 0 := by omega
  have a2 : ¬ x.2 = 0 := by omega
  unfold isC oneB; rw [decide_eq_false a1, decide_eq_false a2]; rfl
theorem isC_big {d : RowsD} {p : Int} {x : Nat × Nat} (h : p < ((pc x.1 : Nat) : Int) + (pc x.2 : Nat)) : isC d p x = false := by
  unfold isC; rw [decide_eq_false (by omega), Bool.false_and, Bool.and_false]
theorem isC_in {d : RowsD} {p : Int} {x : Nat × Nat} (h1 : ((x.1 : Nat) : Int) = 0 ∨ ((x.2 : Nat) : Int) = 0) (h : ((pc x.1 : Nat) : Int) + (pc x.2 : Nat) ≤ p) : isC d p x = leftB d x := by
  have a1 : oneB x = true := by unfold oneB; rw [Bool.or_eq_true, decide_eq_true_eq, decide_eq_true_eq]; omega
  unfold isC; rw [a1, decide_eq_true h, Bool.true_and, Bool.true_and]
theorem ints2_inj (p q : Nat × Nat) (h : [((p.1 : Nat) : Int), ((p.2 : Nat) : Int)] = [((q.1 : Nat) : Int), ((q.2 : Nat) : Int)]) : p = q := by
  obtain ⟨a, b⟩ := p; obtain ⟨c, e⟩ := q
  simp only [List.cons.injEq, Int.natCast_inj, and_true] at h
  rw [h.1, h.2]
end Go.MatM
namespace Go.Proofs.Ytidieepndphodaa
open Go Go.Sy Go.MatM
theorem p42 (v0 : Value) (u : World) : Calls Try.prog 42 #[v0] u (Ret fun v w' => v = .bool true ∧ Ext [] u w') := by
  refine calls_of Try.func42 rfl rfl (fun a hf => ?_)
  have hh := Hp.init u []
  refine sy_sq ?_
  refine o_v hf hh (yv_assign rfl) ?_; clear hf a; intro a hf
  refine o_end ?_
  refine sy_sq ?_
  refine o_v hf hh (yv_assign rfl) ?_; clear hf a; intro a hf
  refine o_end ?_
  refine sy_ret ?_
  refine ret_r hf rfl rfl ?_
  exact ⟨rfl, hh.ext⟩
theorem p36 (d : RowsD) (p : Int) (sa sb : Option Addr) (ca cb bm Bc : Nat) (u : World) (hc : u.heap[Bc]? = some (.cells (canC d p sa sb ca cb bm) 109 (0, 0))) (l r : Int) (Bl Br : Nat) (hl : u.heap[Bl]? = some (.cells #[.int .i64 l] 3 (0, 0))) (hr : u.heap[Br]? = some (.cells #[.int .i64 r] 3 (0, 0))) (hL : d.l.length ≤ 10) (hR : d.r.length ≤ 10) : Calls Try.prog 36 #[ptr Bc 0, ptr Bl 0, ptr Br 0] u (Ret fun v w' => v = .bool (inS l d.l.length && inS r d.r.length) ∧ Ext [] u w') := by
  refine calls_of Try.func36 rfl rfl (fun a hf => ?_)
  have hh := Hp.init u []
  have hp1 := pow_le_10 hL
  have hp2 := pow_le_10 hR
  obtain ⟨q1, hq1⟩ : ∃ q : Nat, q = 2 ^ d.l.length := ⟨_, rfl⟩
  obtain ⟨q2, hq2⟩ : ∃ q : Nat, q = 2 ^ d.r.length := ⟨_, rfl⟩
  have hi1 : inS l d.l.length = (decide (0 ≤ l) && decide (l ≤ (q1 : Int) - 1)) := by unfold inS; rw [hq1]
  have hi2 : inS r d.r.length = (decide (0 ≤ r) && decide (r ≤ (q2 : Int) - 1)) := by unfold inS; rw [hq2]
  rw [← hq1] at hp1; rw [← hq2] at hp2
  refine sy_sq ?_
  refine o_v hf hh (yv_assign rfl) ?_; clear hf a; intro a hf
  refine o_end ?_
  refine sy_seq ?_
  refine sy_quiet (C := Hp _ _ _) Try.follows (by kernel_rfl) (hh.drawn _) ?_
  refine oq_v hf (y_ld Try.sc_3 rfl) ?_; clear hf a; intro a hf
  refine oq_v hf (yv_move rfl) ?_; clear hf a; intro a hf
  refine oq_call hf Try.en_38 rfl rfl rfl (fun w hh => p38l d p sa sb ca cb bm Bc _ (hh.old hc) (by omega) (by omega)) ?_; clear hf a; intro a hf
  refine oq_v hf (yv_cast (yv_shl1 (.inl rfl) rfl rfl (by omega) (by omega)) (intv (b := ((q1 : Nat) : Int)) (by rw [hq1]; exact shl_one))) ?_; clear hf a; intro a hf
  refine oq_v hf (y_sub rfl rfl) ?_; clear hf a; intro a hf
  refine oq_call hf Try.en_37 rfl rfl rfl (fun w hh => p37 _ _ _ _) ?_; clear hf a; intro a hf
  refine oq_v hf (yv_move rfl) ?_; clear hf a; intro a hf
  refine guard_splitq hf (t := 11) rfl (fun hg4 => ?_) (fun hg4 => ?_)
  ·have hG4 := hg4; try simp only [gS] at hG4
   refine oq_v hf (y_ld Try.sc_3 rfl) ?_; clear hf a; intro a hf
   refine oq_v hf (yv_move rfl) ?_; clear hf a; intro a hf
   refine oq_call hf Try.en_38 rfl rfl rfl (fun w hh => p38r d p sa sb ca cb bm Bc _ (hh.old hc) (by omega) (by omega)) ?_; clear hf a; intro a hf
   refine oq_v hf (yv_cast (yv_shl1 (.inl rfl) rfl rfl (by omega) (by omega)) (intv (b := ((q2 : Nat) : Int)) (by rw [hq2]; exact shl_one))) ?_; clear hf a; intro a hf
   refine oq_v hf (y_sub rfl rfl) ?_; clear hf a; intro a hf
   refine oq_call hf Try.en_37 rfl rfl rfl (fun w hh => p37 _ _ _ _) ?_; clear hf a; intro a hf
   refine oq_v hf (y_pt rfl rfl) ?_; clear hf a; intro a hf
   refine oq_v hf (yv_assign rfl) ?_; clear hf a; intro a hf
   refine q_end fun w hh => ?_
   refine then_n ?_
   refine sy_ret ?_
   refine ret_r hf rfl rfl ?_
   first
     | (refine ⟨?_, hh.ext⟩; rw [hi1, hi2, hG4, Bool.false_and]; rfl)
     | (refine ⟨?_, hh.ext⟩; rw [hi1, hi2, hG4, Bool.true_and]; rfl)
     | omega
  ·have hG4 := hg4; try simp only [gS] at hG4
   refine oq_off hf ?_; clear hf a; intro a hf
   refine oq_off hf ?_; clear hf a; intro a hf
   refine oq_off hf ?_; clear hf a; intro a hf
   refine oq_off hf ?_; clear hf a; intro a hf
   refine oq_off hf ?_; clear hf a; intro a hf
   refine oq_off hf ?_; clear hf a; intro a hf
   refine oq_v hf (y_pf rfl rfl) ?_; clear hf a; intro a hf
   refine oq_v hf (yv_assign rfl) ?_; clear hf a; intro a hf
   refine q_end fun w hh => ?_
   refine then_n ?_
   refine sy_ret ?_
   refine ret_r hf rfl rfl ?_
   first
     | (refine ⟨?_, hh.ext⟩; rw [hi1, hi2, hG4, Bool.false_and]; rfl)
     | (refine ⟨?_, hh.ext⟩; rw [hi1, hi2, hG4, Bool.true_and]; rfl)
     | omega
theorem p35 (d : RowsD) (p : Int) (sa sb : Option Addr) (ca cb : Nat) (u : World) (hA : MkAt u sa d.l) (hB : MkAt u sb d.r) (f : Nat) (fcs : Array Value) (b : Bool) (hE : Enters Try.prog f)
    (hcall : okCan d p = true → ∀ (bm Bc : Nat) (w' : World), Ext [] u w' → w'.heap[Bc]? = some (.cells (canC d p sa sb ca cb bm) 109 (0, 0)) → Calls Try.prog f (#[] ++ [ptr Bc 0].toArray ++ fcs) w' (Ret fun v w'' => v = .bool b ∧ Ext [] w' w'')) :
    Calls Try.prog 35 #[canV d p sa sb ca cb, .func (.func f) #[] fcs] u (RetX (fun v w' => openE d p b = 0 ∧ ∃ bm Bc, v = ptr Bc 0 ∧ Hp u [] [(Bc, .cells (canC d p sa sb ca cb bm) 109), (bm, .map #[] 0)] w') (fun ch w' => ch = misfit (openE d p b) ∧ openE d p b ≠ 0 ∧ Ext [] u w')) := by
  refine calls_ofX Try.func35 rfl rfl (fun a hf => ?_)
  have hh := Hp.init u []
  refine sy_sq ?_
  refine o_box hf hh ?_; clear hf hh a; intro B2 a w hf hh
  refine o_v hf hh (yv_assign rfl) ?_; clear hf a; intro a hf
  refine o_end ?_
  refine sy_sq ?_
  refine o_v hf hh (yv_fieldAddr Try.fo_31_0 rfl) ?_; clear hf a; intro a hf
  refine o_v hf hh (y_lds Try.ag_29 rfl) ?_; clear hf a; intro a hf
  refine o_call hf Try.en_67 rfl rfl rfl (c15 d sa sb ca cb _ (hA.ext hh.ext) (hB.ext hh.ext) (-1) (-1) (by omega) (by omega)) ?_; clear hf a; intro v a w hR hf
  obtain ⟨rfl, hx⟩ := hR; replace hh := hh.more hx; clear hx
  refine o_v hf hh (yv_move rfl) ?_; clear hf a; intro a hf
  refine o_v hf hh (yv_extract rfl rfl) ?_; clear hf a; intro a hf
  refine o_v hf hh (yv_extract rfl rfl) ?_; clear hf a; intro a hf
  refine o_v hf hh (yv_assign rfl) ?_; clear hf a; intro a hf
  refine o_v hf hh (yv_assign rfl) ?_; clear hf a; intro a hf
  refine o_end ?_
  refine sy_sq ?_
  refine o_v hf hh (yv_move rfl) ?_; clear hf a; intro a hf
  refine o_v hf hh (yv_bin rfl rfl rfl) ?_; clear hf a; intro a hf
  refine o_v hf hh (yv_move rfl) ?_; clear hf a; intro a hf
  refine guard_split hf (t := 16) rfl (fun hg5 => ?_) (fun hg5 => ?_)
  ·have hG5 := hg5; try simp only [gS] at hG5
   refine o_v hf hh (yv_fieldAddr Try.fo_31_1 rfl) ?_; clear hf a; intro a hf
   refine o_v hf hh (y_ld Try.sc_3 rfl) ?_; clear hf a; intro a hf
   refine o_call hf Try.en_37 rfl rfl rfl (p37 _ _ _ _) ?_; clear hf a; intro v a w hR hf
   obtain ⟨rfl, hx⟩ := hR; replace hh := hh.more hx; clear hx
   refine o_v hf hh (y_pt rfl rfl) ?_; clear hf a; intro a hf
   refine o_callX hf Try.en_50 rfl rfl rfl (p50 _ 1 _) ?_ ?_
   ·clear hf a; intro v a w hR hf
    obtain ⟨hb1, hx⟩ := hR; replace hh := hh.more hx; clear hx
    have hoc : okCan d p = true := by first | exact open_ok hG5 hb1 | exact absurd hb1 (by decide)
    refine o_end ?_
    refine sy_sq ?_
    refine o_v hf hh (y_lds Try.ag_31 rfl) ?_; clear hf a; intro a hf
    refine ops_makeMap hf hh (.inl rfl) rfl ?_; clear hf hh; clear a; intro B23 a w hf hh
    refine o_v hf hh (yv_buildS Try.bs_109 rfl rfl) ?_; clear hf a; intro a hf
    refine o_box hf hh ?_; clear hf hh a; intro B25 a w hf hh
    refine o_v hf hh (yv_assign rfl) ?_; clear hf a; intro a hf
    refine o_end ?_
    refine sy_sq ?_
    refine o_v hf hh (yv_move rfl) ?_; clear hf a; intro a hf
    refine o_v hf hh (yv_move rfl) ?_; clear hf a; intro a hf
    refine o_call hf hE rfl rfl rfl (hcall hoc _ _ _ hh.ext (hh.at (i := 0) rfl)) ?_; clear hf a; intro v a w hR hf
    obtain ⟨rfl, hx⟩ := hR; replace hh := hh.more hx; clear hx
    refine o_callX hf Try.en_50 rfl rfl rfl (p50 _ 2 _) ?_ ?_
    ·clear hf a; intro v a w hR hf
     obtain ⟨hb2, hx⟩ := hR; replace hh := hh.more hx; clear hx
     refine o_end ?_
     refine sy_sq ?_
     refine o_v hf hh (yv_move rfl) ?_; clear hf a; intro a hf
     refine o_v hf hh (yv_assign rfl) ?_; clear hf a; intro a hf
     refine o_end ?_
     refine sy_ret ?_
     refine ret_x ?_
     refine ret_r hf rfl rfl ?_
     exact ⟨by simp [openE, hoc, hb2], _, _, rfl, hh.less (.cons_cons _ (.cons_cons _ (.cons _ (.refl _))))⟩
    ·intro ch w hX hf
     obtain ⟨hb2, hch, hx⟩ := hX; replace hh := hh.more hx; clear hx
     refine then_p ?_
     refine pan_x hf ?_
     exact ⟨by rw [hch]; simp [openE, hoc, hb2], by simp [openE, hoc, hb2], hh.ext⟩
   ·intro ch w hX hf
    obtain ⟨hb1, hch, hx⟩ := hX; replace hh := hh.more hx; clear hx
    have hoc : okCan d p = false := by first | exact open_no2 hG5 | exact open_no hb1
    refine then_p ?_
    refine pan_x hf ?_
    exact ⟨by rw [hch]; simp [openE, hoc], by simp [openE, hoc], hh.ext⟩
  ·have hG5 := hg5; try simp only [gS] at hG5
   refine o_off hf ?_; clear hf a; intro a hf
   refine o_off hf ?_; clear hf a; intro a hf
   refine o_off hf ?_; clear hf a; intro a hf
   refine o_v hf hh (y_pf rfl rfl) ?_; clear hf a; intro a hf
   refine o_callX hf Try.en_50 rfl rfl rfl (p50 _ 1 _) ?_ ?_
   ·clear hf a; intro v a w hR hf
    obtain ⟨hb1, hx⟩ := hR; replace hh := hh.more hx; clear hx
    have hoc : okCan d p = true := by first | exact open_ok hG5 hb1 | exact absurd hb1 (by decide)
    refine o_end ?_
    refine sy_sq ?_
    refine o_v hf hh (y_lds Try.ag_31 rfl) ?_; clear hf a; intro a hf
    refine ops_makeMap hf hh (.inl rfl) rfl ?_; clear hf hh; clear a; intro B23 a w hf hh
    refine o_v hf hh (yv_buildS Try.bs_109 rfl rfl) ?_; clear hf a; intro a hf
    refine o_box hf hh ?_; clear hf hh a; intro B25 a w hf hh
    refine o_v hf hh (yv_assign rfl) ?_; clear hf a; intro a hf
    refine o_end ?_
    refine sy_sq ?_
    refine o_v hf hh (yv_move rfl) ?_; clear hf a; intro a hf
    refine o_v hf hh (yv_move rfl) ?_; clear hf a; intro a hf
    refine o_call hf hE rfl rfl rfl (hcall hoc _ _ _ hh.ext (hh.at (i := 0) rfl)) ?_; clear hf a; intro v a w hR hf
    obtain ⟨rfl, hx⟩ := hR; replace hh := hh.more hx; clear hx
    refine o_callX hf Try.en_50 rfl rfl rfl (p50 _ 2 _) ?_ ?_
    ·clear hf a; intro v a w hR hf
     obtain ⟨hb2, hx⟩ := hR; replace hh := hh.more hx; clear hx
     refine o_end ?_
     refine sy_sq ?_
     refine o_v hf hh (yv_move rfl) ?_; clear hf a; intro a hf
     refine o_v hf hh (yv_assign rfl) ?_; clear hf a; intro a hf
     refine o_end ?_
     refine sy_ret ?_
     refine ret_x ?_
     refine ret_r hf rfl rfl ?_
     exact ⟨by simp [openE, hoc, hb2], _, _, rfl, hh.less (.cons_cons _ (.cons_cons _ (.cons _ (.refl _))))⟩
    ·intro ch w hX hf
     obtain ⟨hb2, hch, hx⟩ := hX; replace hh := hh.more hx; clear hx
     refine then_p ?_
     refine pan_x hf ?_
     exact ⟨by rw [hch]; simp [openE, hoc, hb2], by simp [openE, hoc, hb2], hh.ext⟩
   ·intro ch w hX hf
    obtain ⟨hb1, hch, hx⟩ := hX; replace hh := hh.more hx; clear hx
    have hoc : okCan d p = false := by first | exact open_no2 hG5 | exact open_no hb1
    refine then_p ?_
    refine pan_x hf ?_
    exact ⟨by rw [hch]; simp [openE, hoc], by simp [openE, hoc], hh.ext⟩
end Go.Proofs.Ytidieepndphodaa
namespace Go.Proofs.Ytidieepndphodaa
open Go Go.Sy Go.MatM
theorem k73 : KeyOk Try.prog 73 enc2 := keyArr (k := .u64) (fun x : Nat × Nat => [((x.1 : Nat) : Int), ((x.2 : Nat) : Int)]) ints2_inj (fun _ => rfl) (show Try.prog.underlying 73 = some (.array 2 71) by kernel_rfl) (show Try.prog.underlying 71 = some (.int .u64) by kernel_rfl) (by kernel_rfl) (by kernel_rfl)
theorem mke107 : mapKE Try.prog 107 = some (73, 4) := by kernel_rfl
theorem zb4 : zeroOf Try.prog 4 = some (.bool false) := by kernel_rfl
theorem p39 (d : RowsD) (p : Int) (sa sb : Option Addr) (ca cb bm Bc : Nat) (u : World) (hc : u.heap[Bc]? = some (.cells (canC d p sa sb ca cb bm) 109 (0, 0))) (es : Array MapEntry) (cm : Nat) (hm : u.heap[bm]? = some (.map es cm)) (hM : MemoV enc2 (leftV d) es)
    (hA : MkAt u sa d.l) (hB : MkAt u sb d.r) (hV : Valid d) (x : Nat × Nat) (hx1 : x.1 < 65536) (hx2 : x.2 < 65536) :
    Calls Try.prog 39 #[ptr Bc 0, enc2 x] u (Ret fun v w' => v = .bool (isC d p x) ∧ ∃ es' c', MemoV enc2 (leftV d) es' ∧ Hp u [bm] [(bm, .map es' c')] w') := by
  refine calls_of Try.func39 rfl rfl (fun a hf => ?_)
  have hh := Hp.init1 hm
  have hne : Bc ∉ [bm] := by
    rw [List.mem_singleton]; rintro rfl; rw [hc] at hm; cases hm
  have hmp : ∀ b ∈ [bm], ∃ es c, u.heap[b]? = some (.map es c) := by simp [hm]
  have hpx1 := pc_le x.1
  have hpx2 := pc_le x.2
  refine sy_sq ?_
  refine o_box hf hh ?_; clear hf hh a; intro B3 a w hf hh
  refine o_v hf hh (yv_assign rfl) ?_; clear hf a; intro a hf
  refine o_end ?_
  refine sy_seq ?_
  refine sy_seq ?_
  refine sy_quiet (C := Hp _ _ _) Try.follows (by kernel_rfl) (hh.drawn _) ?_
  refine oq_v hf (y_ia Try.ae_73 rfl rfl) ?_; clear hf a; intro a hf
  refine oq_v hf (y_ld Try.sc_71 rfl) ?_; clear hf a; intro a hf
  refine oq_v hf (yv_bin rfl rfl rfl) ?_; clear hf a; intro a hf
  refine oq_v hf (yv_move rfl) ?_; clear hf a; intro a hf
  refine guard_splitq hf (t := 13) rfl (fun hg2 => ?_) (fun hg2 => ?_)
  ·have hG2 := hg2; try simp only [gS] at hG2
   refine oq_v hf (y_ia Try.ae_73 rfl rfl) ?_; clear hf a; intro a hf
   refine oq_v hf (y_ld Try.sc_71 rfl) ?_; clear hf a; intro a hf
   refine oq_v hf (yv_bin rfl rfl rfl) ?_; clear hf a; intro a hf
   refine oq_v hf (y_pt rfl rfl) ?_; clear hf a; intro a hf
   refine oq_v hf (yv_move rfl) ?_; clear hf a; intro a hf
   refine guard_splitq hf (t := 18) rfl (fun hg4 => ?_) (fun hg4 => ?_)
   ·have hG4 := hg4; try simp only [gS] at hG4
    refine oq_off hf ?_; clear hf a; intro a hf
    refine oq_off hf ?_; clear hf a; intro a hf
    refine oq_off hf ?_; clear hf a; intro a hf
    refine oq_off hf ?_; clear hf a; intro a hf
    refine oq_off hf ?_; clear hf a; intro a hf
    refine oq_off hf ?_; clear hf a; intro a hf
    refine oq_off hf ?_; clear hf a; intro a hf
    refine oq_off hf ?_; clear hf a; intro a hf
    refine oq_off hf ?_; clear hf a; intro a hf
    refine oq_off hf ?_; clear hf a; intro a hf
    refine oq_off hf ?_; clear hf a; intro a hf
    refine oq_off hf ?_; clear hf a; intro a hf
    refine oq_off hf ?_; clear hf a; intro a hf
    refine oq_v hf (y_pt rfl rfl) ?_; clear hf a; intro a hf
    refine q_end fun w hh => ?_
    refine then_n ?_
    refine c_t hf ?_
    refine sy_sq ?_
    refine o_v hf hh (yv_assign rfl) ?_; clear hf a; intro a hf
    refine o_end ?_
    refine sy_ret ?_
    refine then_r ?_
    refine ret_r hf rfl rfl ?_
    first
      | (refine ⟨?_, es, cm, hM, hh.less (.cons _ (.refl _))⟩; rw [isC_two]; · rfl
         · assumption
         · assumption)
      | (refine ⟨?_, es, cm, hM, hh.less (.cons _ (.refl _))⟩; rw [isC_big]; · rfl
         · assumption)
      | (refine ⟨?_, es, cm, hM, hh.less (.cons _ (.refl _))⟩; rw [isC_in]; · rfl
         · first | exact .inl (by assumption) | exact .inr (by assumption)
         · assumption)
      | (obtain rfl : b = true := by assumption
         refine ⟨?_, es, cm, hM, hh.less (.cons _ (.refl _))⟩; rw [isC_in]; · rfl
         · first | exact .inl (by assumption) | exact .inr (by assumption)
         · assumption)
   ·have hG4 := hg4; try simp only [gS] at hG4
    refine oq_v hf (y_ia Try.ae_73 rfl rfl) ?_; clear hf a; intro a hf
    refine oq_v hf (y_ld Try.sc_71 rfl) ?_; clear hf a; intro a hf
    refine oq_call hf Try.en_68 rfl rfl rfl (fun w hh => p68 x.1 hx1 _) ?_; clear hf a; intro a hf
    refine oq_v hf (y_ia Try.ae_73 rfl rfl) ?_; clear hf a; intro a hf
    refine oq_v hf (y_ld Try.sc_71 rfl) ?_; clear hf a; intro a hf
    refine oq_call hf Try.en_68 rfl rfl rfl (fun w hh => p68 x.2 hx2 _) ?_; clear hf a; intro a hf
    refine oq_v hf (y_add rfl rfl) ?_; clear hf a; intro a hf
    refine oq_v hf (yv_move rfl) ?_; clear hf a; intro a hf
    refine oq_v hf (yv_nilCheck rfl) ?_; clear hf a; intro a hf
    refine oq_v hf (yv_fieldAddr Try.fo_109_0 rfl) ?_; clear hf a; intro a hf
    refine oq_v hf (yv_fieldAddr Try.fo_31_1 rfl) ?_; clear hf a; intro a hf
    refine oq_v hf (y_ld Try.sc_3 rfl) ?_; clear hf a; intro a hf
    refine oq_v hf (yv_bin rfl rfl rfl) ?_; clear hf a; intro a hf
    refine oq_v hf (y_pf rfl rfl) ?_; clear hf a; intro a hf
    refine q_end fun w hh => ?_
    refine then_n ?_
    refine sy_cond hf rfl (fun hg8 => ?_) (fun hg8 => ?_)
    ·have hG8 := hg8; try simp only [gS] at hG8
     refine sy_sq ?_
     refine o_v hf hh (yv_assign rfl) ?_; clear hf a; intro a hf
     refine o_end ?_
     refine sy_ret ?_
     refine then_r ?_
     refine ret_r hf rfl rfl ?_
     first
       | (refine ⟨?_, es, cm, hM, hh.less (.cons _ (.refl _))⟩; rw [isC_two]; · rfl
          · assumption
          · assumption)
       | (refine ⟨?_, es, cm, hM, hh.less (.cons _ (.refl _))⟩; rw [isC_big]; · rfl
          · assumption)
       | (refine ⟨?_, es, cm, hM, hh.less (.cons _ (.refl _))⟩; rw [isC_in]; · rfl
          · first | exact .inl (by assumption) | exact .inr (by assumption)
          · assumption)
       | (obtain rfl : b = true := by assumption
          refine ⟨?_, es, cm, hM, hh.less (.cons _ (.refl _))⟩; rw [isC_in]; · rfl
          · first | exact .inl (by assumption) | exact .inr (by assumption)
          · assumption)
    ·have hG8 := hg8; try simp only [gS] at hG8
     refine sy_skip ?_
     refine then_n ?_
     refine sy_seq ?_
     refine sy_quiet (C := Hp _ _ _) Try.follows (by kernel_rfl) (hh.drawn _) ?_
     refine oq_v hf (yv_move rfl) ?_; clear hf a; intro a hf
     refine oq_v hf (yv_nilCheck rfl) ?_; clear hf a; intro a hf
     refine oq_v hf (yv_fieldAddr Try.fo_109_1 rfl) ?_; clear hf a; intro a hf
     refine oq_v hf (y_ld Try.sc_107 rfl) ?_; clear hf a; intro a hf
     refine oq_v hf (y_lds Try.ag_73 rfl) ?_; clear hf a; intro a hf
     refine oq_lookupV (i := 1) hf k73 mke107 zb4 rfl rfl rfl hM (.inl rfl) rfl fun b a hf => ?_
     refine oq_v hf (yv_move rfl) ?_; clear hf a; intro a hf
     refine oq_v hf (yv_extract rfl rfl) ?_; clear hf a; intro a hf
     refine oq_v hf (yv_extract rfl rfl) ?_; clear hf a; intro a hf
     refine oq_v hf (yv_assign rfl) ?_; clear hf a; intro a hf
     refine oq_v hf (yv_assign rfl) ?_; clear hf a; intro a hf
     refine q_end fun w hh => ?_
     refine then_n ?_
     refine sy_seq ?_
     refine sy_sq ?_
     refine o_v hf hh (yv_move rfl) ?_; clear hf a; intro a hf
     refine o_v hf hh (yv_not rfl) ?_; clear hf a; intro a hf
     refine o_end ?_
     refine sy_cond hf rfl (fun hg12 => ?_) (fun hg12 => ?_)
     ·have hG12 := hg12; try simp only [gS] at hG12
      refine sy_sq ?_
      refine o_v hf hh (yv_move rfl) ?_; clear hf a; intro a hf
      refine o_v hf hh (y_lds Try.ag_73 rfl) ?_; clear hf a; intro a hf
      refine o_call hf Try.en_56 rfl rfl rfl (p56 d p sa sb ca cb bm Bc _ (hh.oldM hc hne) (hA.extM hh.ext hmp) (hB.extM hh.ext hmp) hV x hx1 hx2) ?_; clear hf a; intro v a w hR hf
      obtain ⟨oa, ob, cpa, cpb, XA, XB, rfl, hOA, hOB, hx⟩ := hR; have hA2 := mkAt_of hOA fun x hx2 => hx.get x (by simp [hx2])
      have hB2 := mkAt_of hOB fun x hx2 => hx.get x (by simp [hx2])
      replace hh := (hh.join hx).less (List.sublist_append_right _ _); clear hx
      refine o_call hf Try.en_69 rfl rfl rfl (c19 (woD d x) oa ob cpa cpb _ hA2 hB2) ?_; clear hf a; intro v a w hR hf
      obtain ⟨sv, X2, rfl, hO2, hx⟩ := hR; replace hh := (hh.join hx).less (List.sublist_append_right _ _); clear hx
      refine o_v hf hh (yv_move rfl) ?_; clear hf a; intro a hf
      refine o_v hf hh (yv_extract rfl rfl) ?_; clear hf a; intro a hf
      refine o_v hf hh (yv_extract rfl rfl) ?_; clear hf a; intro a hf
      refine o_v hf hh (yv_extract rfl rfl) ?_; clear hf a; intro a hf
      refine o_v hf hh (yv_assign rfl) ?_; clear hf a; intro a hf
      refine o_v hf hh (yv_assign rfl) ?_; clear hf a; intro a hf
      refine o_v hf hh (yv_assign rfl) ?_; clear hf a; intro a hf
      refine o_end ?_
      refine sy_sq ?_
      refine o_v hf hh (yv_move rfl) ?_; clear hf a; intro a hf
      refine o_v hf hh (yv_bin rfl rfl rfl) ?_; clear hf a; intro a hf
      refine o_v hf hh (yv_assign rfl) ?_; clear hf a; intro a hf
      refine o_end ?_
      refine sy_tail (C := Hp _ _ _) 6 Try.follows (by kernel_rfl) rfl rfl (hh.drawn _) ?_
      refine oq_v hf (yv_move rfl) ?_; clear hf a; intro a hf
      refine oq_v hf (yv_nilCheck rfl) ?_; clear hf a; intro a hf
      refine oq_v hf (yv_fieldAddr Try.fo_109_1 rfl) ?_; clear hf a; intro a hf
      refine oq_v hf (y_ld Try.sc_107 rfl) ?_; clear hf a; intro a hf
      refine oq_v hf (y_lds Try.ag_73 rfl) ?_; clear hf a; intro a hf
      refine oq_v hf (yv_move rfl) ?_; clear hf a; intro a hf
      refine q_end fun w hh => ?_
      refine ops_mapUpdateV (i := 1) (p := x) (F := leftV d) hf hh k73 mke107 rfl rfl rfl rfl hM (.inl rfl) fun es cm w hM hh => ?_
      refine o_end ?_
      refine sy_sq ?_
      refine o_v hf hh (yv_move rfl) ?_; clear hf a; intro a hf
      refine o_v hf hh (yv_assign rfl) ?_; clear hf a; intro a hf
      refine o_end ?_
      refine sy_ret ?_
      refine ret_r hf rfl rfl ?_
      first
        | (refine ⟨?_, es, cm, hM, hh.less (.cons _ (.refl _))⟩; rw [isC_two]; · rfl
           · assumption
           · assumption)
        | (refine ⟨?_, es, cm, hM, hh.less (.cons _ (.refl _))⟩; rw [isC_big]; · rfl
           · assumption)
        | (refine ⟨?_, es, cm, hM, hh.less (.cons _ (.refl _))⟩; rw [isC_in]; · rfl
           · first | exact .inl (by assumption) | exact .inr (by assumption)
           · assumption)
        | (obtain rfl : b = true := by assumption
           refine ⟨?_, es, cm, hM, hh.less (.cons _ (.refl _))⟩; rw [isC_in]; · rfl
           · first | exact .inl (by assumption) | exact .inr (by assumption)
           · assumption)
     ·have hG12 := hg12; try simp only [gS] at hG12
      refine sy_skip ?_
      refine then_n ?_
      refine sy_sq ?_
      refine o_v hf hh (yv_move rfl) ?_; clear hf a; intro a hf
      refine o_v hf hh (yv_assign rfl) ?_; clear hf a; intro a hf
      refine o_end ?_
      refine sy_ret ?_
      refine ret_r hf rfl rfl ?_
      first
        | (refine ⟨?_, es, cm, hM, hh.less (.cons _ (.refl _))⟩; rw [isC_two]; · rfl
           · assumption
           · assumption)
        | (refine ⟨?_, es, cm, hM, hh.less (.cons _ (.refl _))⟩; rw [isC_big]; · rfl
           · assumption)
        | (refine ⟨?_, es, cm, hM, hh.less (.cons _ (.refl _))⟩; rw [isC_in]; · rfl
           · first | exact .inl (by assumption) | exact .inr (by assumption)
           · assumption)
        | (obtain rfl : b = true := by assumption
           refine ⟨?_, es, cm, hM, hh.less (.cons _ (.refl _))⟩; rw [isC_in]; · rfl
           · first | exact .inl (by assumption) | exact .inr (by assumption)
           · assumption)
  ·have hG2 := hg2; try simp only [gS] at hG2
   refine oq_off hf ?_; clear hf a; intro a hf
   refine oq_off hf ?_; clear hf a; intro a hf
   refine oq_off hf ?_; clear hf a; intro a hf
   refine oq_v hf (y_pf rfl rfl) ?_; clear hf a; intro a hf
   refine oq_v hf (yv_move rfl) ?_; clear hf a; intro a hf
   refine oq_v hf (y_ia Try.ae_73 rfl rfl) ?_; clear hf a; intro a hf
   refine oq_v hf (y_ld Try.sc_71 rfl) ?_; clear hf a; intro a hf
   refine oq_call hf Try.en_68 rfl rfl rfl (fun w hh => p68 x.1 hx1 _) ?_; clear hf a; intro a hf
   refine oq_v hf (y_ia Try.ae_73 rfl rfl) ?_; clear hf a; intro a hf
   refine oq_v hf (y_ld Try.sc_71 rfl) ?_; clear hf a; intro a hf
   refine oq_call hf Try.en_68 rfl rfl rfl (fun w hh => p68 x.2 hx2 _) ?_; clear hf a; intro a hf
   refine oq_v hf (y_add rfl rfl) ?_; clear hf a; intro a hf
   refine oq_v hf (yv_move rfl) ?_; clear hf a; intro a hf
   refine oq_v hf (yv_nilCheck rfl) ?_; clear hf a; intro a hf
   refine oq_v hf (yv_fieldAddr Try.fo_109_0 rfl) ?_; clear hf a; intro a hf
   refine oq_v hf (yv_fieldAddr Try.fo_31_1 rfl) ?_; clear hf a; intro a hf
   refine oq_v hf (y_ld Try.sc_3 rfl) ?_; clear hf a; intro a hf
   refine oq_v hf (yv_bin rfl rfl rfl) ?_; clear hf a; intro a hf
   refine oq_v hf (y_pf rfl rfl) ?_; clear hf a; intro a hf
   refine q_end fun w hh => ?_
   refine then_n ?_
   refine sy_cond hf rfl (fun hg22 => ?_) (fun hg22 => ?_)
   ·have hG22 := hg22; try simp only [gS] at hG22
    refine sy_sq ?_
    refine o_v hf hh (yv_assign rfl) ?_; clear hf a; intro a hf
    refine o_end ?_
    refine sy_ret ?_
    refine then_r ?_
    refine ret_r hf rfl rfl ?_
    first
      | (refine ⟨?_, es, cm, hM, hh.less (.cons _ (.refl _))⟩; rw [isC_two]; · rfl
         · assumption
         · assumption)
      | (refine ⟨?_, es, cm, hM, hh.less (.cons _ (.refl _))⟩; rw [isC_big]; · rfl
         · assumption)
      | (refine ⟨?_, es, cm, hM, hh.less (.cons _ (.refl _))⟩; rw [isC_in]; · rfl
         · first | exact .inl (by assumption) | exact .inr (by assumption)
         · assumption)
      | (obtain rfl : b = true := by assumption
         refine ⟨?_, es, cm, hM, hh.less (.cons _ (.refl _))⟩; rw [isC_in]; · rfl
         · first | exact .inl (by assumption) | exact .inr (by assumption)
         · assumption)
   ·have hG22 := hg22; try simp only [gS] at hG22
    refine sy_skip ?_
    refine then_n ?_
    refine sy_seq ?_
    refine sy_quiet (C := Hp _ _ _) Try.follows (by kernel_rfl) (hh.drawn _) ?_
    refine oq_v hf (yv_move rfl) ?_; clear hf a; intro a hf
    refine oq_v hf (yv_nilCheck rfl) ?_; clear hf a; intro a hf
    refine oq_v hf (yv_fieldAddr Try.fo_109_1 rfl) ?_; clear hf a; intro a hf
    refine oq_v hf (y_ld Try.sc_107 rfl) ?_; clear hf a; intro a hf
    refine oq_v hf (y_lds Try.ag_73 rfl) ?_; clear hf a; intro a hf
    refine oq_lookupV (i := 1) hf k73 mke107 zb4 rfl rfl rfl hM (.inl rfl) rfl fun b a hf => ?_
    refine oq_v hf (yv_move rfl) ?_; clear hf a; intro a hf
    refine oq_v hf (yv_extract rfl rfl) ?_; clear hf a; intro a hf
    refine oq_v hf (yv_extract rfl rfl) ?_; clear hf a; intro a hf
    refine oq_v hf (yv_assign rfl) ?_; clear hf a; intro a hf
    refine oq_v hf (yv_assign rfl) ?_; clear hf a; intro a hf
    refine q_end fun w hh => ?_
    refine then_n ?_
    refine sy_seq ?_
    refine sy_sq ?_
    refine o_v hf hh (yv_move rfl) ?_; clear hf a; intro a hf
    refine o_v hf hh (yv_not rfl) ?_; clear hf a; intro a hf
    refine o_end ?_
    refine sy_cond hf rfl (fun hg26 => ?_) (fun hg26 => ?_)
    ·have hG26 := hg26; try simp only [gS] at hG26
     refine sy_sq ?_
     refine o_v hf hh (yv_move rfl) ?_; clear hf a; intro a hf
     refine o_v hf hh (y_lds Try.ag_73 rfl) ?_; clear hf a; intro a hf
     refine o_call hf Try.en_56 rfl rfl rfl (p56 d p sa sb ca cb bm Bc _ (hh.oldM hc hne) (hA.extM hh.ext hmp) (hB.extM hh.ext hmp) hV x hx1 hx2) ?_; clear hf a; intro v a w hR hf
     obtain ⟨oa, ob, cpa, cpb, XA, XB, rfl, hOA, hOB, hx⟩ := hR; have hA2 := mkAt_of hOA fun x hx2 => hx.get x (by simp [hx2])
     have hB2 := mkAt_of hOB fun x hx2 => hx.get x (by simp [hx2])
     replace hh := (hh.join hx).less (List.sublist_append_right _ _); clear hx
     refine o_call hf Try.en_69 rfl rfl rfl (c19 (woD d x) oa ob cpa cpb _ hA2 hB2) ?_; clear hf a; intro v a w hR hf
     obtain ⟨sv, X2, rfl, hO2, hx⟩ := hR; replace hh := (hh.join hx).less (List.sublist_append_right _ _); clear hx
     refine o_v hf hh (yv_move rfl) ?_; clear hf a; intro a hf
     refine o_v hf hh (yv_extract rfl rfl) ?_; clear hf a; intro a hf
     refine o_v hf hh (yv_extract rfl rfl) ?_; clear hf a; intro a hf
     refine o_v hf hh (yv_extract rfl rfl) ?_; clear hf a; intro a hf
     refine o_v hf hh (yv_assign rfl) ?_; clear hf a; intro a hf
     refine o_v hf hh (yv_assign rfl) ?_; clear hf a; intro a hf
     refine o_v hf hh (yv_assign rfl) ?_; clear hf a; intro a hf
     refine o_end ?_
     refine sy_sq ?_
     refine o_v hf hh (yv_move rfl) ?_; clear hf a; intro a hf
     refine o_v hf hh (yv_bin rfl rfl rfl) ?_; clear hf a; intro a hf
     refine o_v hf hh (yv_assign rfl) ?_; clear hf a; intro a hf
     refine o_end ?_
     refine sy_tail (C := Hp _ _ _) 6 Try.follows (by kernel_rfl) rfl rfl (hh.drawn _) ?_
     refine oq_v hf (yv_move rfl) ?_; clear hf a; intro a hf
     refine oq_v hf (yv_nilCheck rfl) ?_; clear hf a; intro a hf
     refine oq_v hf (yv_fieldAddr Try.fo_109_1 rfl) ?_; clear hf a; intro a hf
     refine oq_v hf (y_ld Try.sc_107 rfl) ?_; clear hf a; intro a hf
     refine oq_v hf (y_lds Try.ag_73 rfl) ?_; clear hf a; intro a hf
     refine oq_v hf (yv_move rfl) ?_; clear hf a; intro a hf
     refine q_end fun w hh => ?_
     refine ops_mapUpdateV (i := 1) (p := x) (F := leftV d) hf hh k73 mke107 rfl rfl rfl rfl hM (.inl rfl) fun es cm w hM hh => ?_
     refine o_end ?_
     refine sy_sq ?_
     refine o_v hf hh (yv_move rfl) ?_; clear hf a; intro a hf
     refine o_v hf hh (yv_assign rfl) ?_; clear hf a; intro a hf
     refine o_end ?_
     refine sy_ret ?_
     refine ret_r hf rfl rfl ?_
     first
       | (refine ⟨?_, es, cm, hM, hh.less (.cons _ (.refl _))⟩; rw [isC_two]; · rfl
          · assumption
          · assumption)
       | (refine ⟨?_, es, cm, hM, hh.less (.cons _ (.refl _))⟩; rw [isC_big]; · rfl
          · assumption)
       | (refine ⟨?_, es, cm, hM, hh.less (.cons _ (.refl _))⟩; rw [isC_in]; · rfl
          · first | exact .inl (by assumption) | exact .inr (by assumption)
          · assumption)
       | (obtain rfl : b = true := by assumption
          refine ⟨?_, es, cm, hM, hh.less (.cons _ (.refl _))⟩; rw [isC_in]; · rfl
          · first | exact .inl (by assumption) | exact .inr (by assumption)
          · assumption)
    ·have hG26 := hg26; try simp only [gS] at hG26
     refine sy_skip ?_
     refine then_n ?_
     refine sy_sq ?_
     refine o_v hf hh (yv_move rfl) ?_; clear hf a; intro a hf
     refine o_v hf hh (yv_assign rfl) ?_; clear hf a; intro a hf
     refine o_end ?_
     refine sy_ret ?_
     refine ret_r hf rfl rfl ?_
     first
       | (refine ⟨?_, es, cm, hM, hh.less (.cons _ (.refl _))⟩; rw [isC_two]; · rfl
          · assumption
          · assumption)
       | (refine ⟨?_, es, cm, hM, hh.less (.cons _ (.refl _))⟩; rw [isC_big]; · rfl
          · assumption)
       | (refine ⟨?_, es, cm, hM, hh.less (.cons _ (.refl _))⟩; rw [isC_in]; · rfl
          · first | exact .inl (by assumption) | exact .inr (by assumption)
          · assumption)
       | (obtain rfl : b = true := by assumption
          refine ⟨?_, es, cm, hM, hh.less (.cons _ (.refl _))⟩; rw [isC_in]; · rfl
          · first | exact .inl (by assumption) | exact .inr (by assumption)
          · assumption)
end Go.Proofs.Ytidieepndphodaa
