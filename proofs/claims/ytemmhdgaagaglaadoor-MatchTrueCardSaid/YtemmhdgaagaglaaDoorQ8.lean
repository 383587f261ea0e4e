/- Lemmas, in order: Rows in which no pairs are that a rule forbids. How many ways there are, counted. The most pairs, in a grid; sets by bits; whether a pair is one in some way. The most pairs; is there a way? Which marks are a pair, or hidden, in some way. Rows that are opened; bits of numbers. What the program's exported functions tell, in plain terms. Fits, Count, Can. Sure, Hides.. -/
import Derived.Test.YtemmhdgaagaglaaDoorQ7
import Derived.Shelf.Spec.TrailingZeros
namespace Go.Proofs.YtemmhdgaagaglaaDoor
open Go Go.Sy Go.MatM
/-- A rule that forbids pairs. -/
def NoSpec (u : World) (f : Nat) (fcs : Array Value) (no : Nat → Nat → Bool) : Prop := ∀ (i k : Nat) (w' : World), i < 10 → k < 10 → Ext [] u w' →
  Calls Tryd.prog f (#[] ++ [Value.int .i64 i, Value.int .i64 k].toArray ++ fcs) w' (Ret fun v w'' => v = .bool (no i k) ∧ Ext [] w' w'')
theorem NoSpec.ext {u w : World} {f : Nat} {fcs : Array Value} {no : Nat → Nat → Bool} (h : NoSpec u f fcs no) (e : Ext [] u w) : NoSpec w f fcs no := fun i k w' hi hk e' => h i k w' hi hk (e.trans e')
def procN (F no : Nat → Nat → Bool) (i k : Nat) : Nat → Nat → Bool := fun x y => F x y && !(no x y && decide (x < i ∨ x = i ∧ y < k))
theorem procN_zero {F no : Nat → Nat → Bool} : procN F no 0 0 = F := by funext x y; simp [procN]
theorem procN_next {F no : Nat → Nat → Bool} {i k : Nat} : updF (procN F no i k) i k (F i k && !no i k) = procN F no i (k + 1) := by
  funext x y
  unfold updF procN
  split
  · rename_i h; simp [h.1, h.2]
  · rename_i h
    congr 3
    rw [decide_eq_decide]
    omega
theorem procN_row {F no : Nat → Nat → Bool} {R i : Nat} (h : ∀ x y, F x y = true → y < R) : procN F no i R = procN F no (i + 1) 0 := by
  funext x y
  unfold procN
  cases e : F x y
  · rfl
  · have := h x y e
    congr 3
    rw [decide_eq_decide]; omega
theorem procN_all {F no : Nat → Nat → Bool} {L : Nat} (h : ∀ x y, F x y = true → x < L) : procN F no L 0 = fun x y => F x y && !no x y := by
  funext x y
  unfold procN
  cases e : F x y
  · rfl
  · have := h x y e
    simp [this]
theorem c60 (d : RowsD) (sa sb : Option Addr) (ca cb : Nat) (F : Nat → Nat → Bool) (rb f : Nat) (fcs : Array Value) (no : Nat → Nat → Bool) (u : World) (hE : Enters Tryd.prog f) (hO : RowO u rb d sa sb ca cb F) (hno : NoSpec u f fcs no) (hF : ∀ x y, F x y = true → x < d.l.length ∧ y < d.r.length) :
    Calls Tryd.prog 60 #[ptr rb 0, .func (.func f) #[] fcs] u (Ret fun v w' => ∃ B cs, v = ptr B 0 ∧ RowA d sa sb ca cb (fun x y => F x y && !no x y) cs ∧ Hp u [] [(B, .cells cs 73)] w') := by
  refine calls_of Tryd.func60 rfl rfl (fun a hf => ?_)
  have hh := Hp.init u []
  obtain ⟨⟨cs, hb, hcs⟩, hnl, hnr⟩ := hO
  have c0 := hcs.l; have c1 := hcs.r
  refine sy_sq ?_
  refine o_v hf hh (yv_assign rfl) ?_; clear hf a; intro a hf
  refine o_end ?_
  refine sy_sq ?_
  refine o_v hf hh (yv_move rfl) ?_; clear hf a; intro a hf
  refine o_v hf hh (yv_nilCheck rfl) ?_; clear hf a; intro a hf
  refine o_v hf hh (yv_loads (vs := cs.toList) Tryd.ag_73 rfl (fun w h => h.old hb) (by rw [← hcs.size]; exact cellsAt_all)) ?_; clear hf a; intro a hf
  refine o_alloc hf hh Tryd.ze_73 ?_; clear hf hh a; intro B5 a w hf hh
  refine o_store hf hh Tryd.sz_73 (hx := rfl) (hi := atI (i := 0) rfl) (hy := rfl) (hv := hcs.size) (h1 := hcs.one) fun w hh => ?_
  refine o_end ?_
  refine sy_seq ?_
  refine sy_seq ?_
  obtain ⟨cs0, hR0, hh⟩ : ∃ cs1, RowA d sa sb ca cb (procN F no 0 0) cs1 ∧ Hp u [] [(B5, .cells cs1 73)] w := by
    refine ⟨_, ?_, hh⟩
    rw [procN_zero]
    have e : ∀ z : Array Value, z.size = 106 → RowA d sa sb ca cb F (spl z 0 cs.toList) := fun z hz => by rw [spl_all (by rw [hcs.size, hz])]; exact hcs
    exact e _ rfl
  refine sy_ops ?_
  refine o_v hf hh (yv_move rfl) ?_; clear hf a; intro a hf
  refine o_v hf hh (yv_nilCheck rfl) ?_; clear hf a; intro a hf
  refine o_v hf hh (yv_fieldAddr Tryd.fo_73_0 rfl) ?_; clear hf a; intro a hf
  refine o_v hf hh (yv_fieldAddr Tryd.fo_26_0 rfl) ?_; clear hf a; intro a hf
  refine o_v hf hh (y_ld Tryd.sc_22 rfl) ?_; clear hf a; intro a hf
  refine o_v hf hh (yv_len Tryd.se_22 rfl) ?_; clear hf a; intro a hf
  refine o_v hf hh (yv_move rfl) ?_; clear hf a; intro a hf
  refine o_end ?_
  refine sy_block ?_
  refine sy_loopH (σ := Nat) [6, 7, 17, 18, 19, 20, 21, 22, 23, 24, 25, 26, 27, 28, 29, 30, 31, 32, 33, 34, 35, 36, 37, 38, 39, 40, 41, 42, 43, 44, 45, 46, 47, 48, 49, 50] (fun i => [(17, .int .i64 i)]) (fun i => fun w => i ≤ d.l.length ∧ ∃ cs1, RowA d sa sb ca cb (procN F no i 0) cs1 ∧ Hp u [] [(B5, .cells cs1 73)] w) (fun i => d.l.length - i) (0) hf ?_ ?_ ?_
  · repeat' (first | exact True.intro | refine And.intro rfl ?_)
  · exact ⟨Nat.zero_le _, _, hR0, hh⟩
  ·rintro i a w ⟨hi, cs1, hR, hh⟩ hf
   refine sy_sq ?_
   refine o_v hf hh (yv_bin rfl rfl rfl) ?_; clear hf a; intro a hf
   refine o_end ?_
   refine sy_seq ?_
   refine sy_cond hf rfl (fun hg3 => ?_) (fun hg3 => ?_)
   ·have hG3 := hg3; try simp only [gS] at hG3
    refine sy_skip ?_
    refine then_n ?_
    refine sy_seq ?_
    refine sy_block ?_
    refine sy_sq ?_
    refine o_v hf hh (yv_move rfl) ?_; clear hf a; intro a hf
    refine o_v hf hh (yv_assign rfl) ?_; clear hf a; intro a hf
    refine o_end ?_
    refine sy_sq ?_
    refine o_v hf hh (yv_move rfl) ?_; clear hf a; intro a hf
    refine o_v hf hh (yv_nilCheck rfl) ?_; clear hf a; intro a hf
    refine o_v hf hh (yv_fieldAddr Tryd.fo_73_0 rfl) ?_; clear hf a; intro a hf
    refine o_v hf hh (yv_fieldAddr Tryd.fo_26_1 rfl) ?_; clear hf a; intro a hf
    refine o_v hf hh (y_ld Tryd.sc_22 rfl) ?_; clear hf a; intro a hf
    refine o_v hf hh (yv_len Tryd.se_22 rfl) ?_; clear hf a; intro a hf
    refine o_v hf hh (yv_move rfl) ?_; clear hf a; intro a hf
    refine o_end ?_
    refine sy_block ?_
    refine sy_loopH (σ := Nat) [7, 26, 27, 28, 29, 30, 31, 32, 33, 34, 35, 36, 37, 38, 39, 40, 41, 42, 43, 44, 45, 46, 47, 48, 49] (fun k => [(26, .int .i64 k)]) (fun k => fun w => k ≤ d.r.length ∧ ∃ cs1, RowA d sa sb ca cb (procN F no i k) cs1 ∧ Hp u [] [(B5, .cells cs1 73)] w) (fun k => d.r.length - k) (0) hf ?_ ?_ ?_
    · repeat' (first | exact True.intro | refine And.intro rfl ?_)
    · exact ⟨Nat.zero_le _, _, hR, hh⟩
    ·rintro k a w ⟨hk, cs2, hR2, hh⟩ hf
     refine sy_sq ?_
     refine o_v hf hh (yv_bin rfl rfl rfl) ?_; clear hf a; intro a hf
     refine o_end ?_
     refine sy_seq ?_
     refine sy_cond hf rfl (fun hg5 => ?_) (fun hg5 => ?_)
     ·have hG5 := hg5; try simp only [gS] at hG5
      refine sy_skip ?_
      refine then_n ?_
      refine sy_seq ?_
      refine sy_block ?_
      refine sy_sq ?_
      refine o_v hf hh (yv_move rfl) ?_; clear hf a; intro a hf
      refine o_v hf hh (yv_assign rfl) ?_; clear hf a; intro a hf
      refine o_end ?_
      have hft := hcs.fitA (i := i) (k := k) (by omega) (by omega)
      have hsz := hR2.size
      refine sy_tail (C := Hp _ _ _) 20 Tryd.follows (by kernel_rfl) rfl rfl (hh.drawn _) ?_
      refine oq_v hf (yv_move rfl) ?_; clear hf a; intro a hf
      refine oq_v hf (yv_move rfl) ?_; clear hf a; intro a hf
      refine oq_v hf (yv_move rfl) ?_; clear hf a; intro a hf
      refine oq_v hf (yv_move rfl) ?_; clear hf a; intro a hf
      refine oq_v hf (yv_move rfl) ?_; clear hf a; intro a hf
      refine oq_v hf (yv_nilCheck rfl) ?_; clear hf a; intro a hf
      refine oq_v hf (yv_fieldAddr Tryd.fo_73_1 rfl) ?_; clear hf a; intro a hf
      refine oq_v hf (y_ia Tryd.ae_71 rfl rfl) ?_; clear hf a; intro a hf
      refine oq_v hf (y_ia Tryd.ae_70 rfl rfl) ?_; clear hf a; intro a hf
      refine oq_v hf (y_ld Tryd.sc_4 rfl) ?_; clear hf a; intro a hf
      refine oq_v hf (yv_move rfl) ?_; clear hf a; intro a hf
      refine guard_splitq hf (t := 39) rfl (fun hg7 => ?_) (fun hg7 => ?_)
      ·have hG7 := hg7; try simp only [gS] at hG7
       refine oq_v hf (yv_move rfl) ?_; clear hf a; intro a hf
       refine oq_v hf (yv_move rfl) ?_; clear hf a; intro a hf
       refine oq_v hf (yv_move rfl) ?_; clear hf a; intro a hf
       refine oq_call hf hE rfl rfl rfl (fun w hh => hno i k w (by omega) (by omega) hh.ext) ?_; clear hf a; intro a hf
       refine oq_v hf (yv_not rfl) ?_; clear hf a; intro a hf
       refine oq_v hf (y_pt rfl rfl) ?_; clear hf a; intro a hf
       refine oq_v hf (yv_fieldAddr Tryd.fo_73_1 rfl) ?_; clear hf a; intro a hf
       refine oq_v hf (y_ia Tryd.ae_71 rfl rfl) ?_; clear hf a; intro a hf
       refine oq_v hf (y_ia Tryd.ae_70 rfl rfl) ?_; clear hf a; intro a hf
       refine q_end fun w hh => ?_
       refine o_store hf hh Tryd.sz_4 fun w hh => ?_
       refine ops_end ?_
       refine blk_n ?_
       refine then_n ?_
       refine sy_ops ?_
       refine o_v hf hh (y_add rfl rfl) ?_; clear hf a; intro a hf
       refine o_v hf hh (yv_move rfl) ?_; clear hf a; intro a hf
       refine ops_end ?_
       refine then_n ?_
       refine ⟨k + 1, ⟨⟨by omega, _, ?_, hh⟩, (hf.head (by repeat' (first | exact True.intro | refine And.intro rfl ?_)) (Keep.cons rfl (Keep.cons rfl (Keep.cons rfl (Keep.cons rfl (Keep.cons rfl (Keep.cons rfl (Keep.cons rfl (Keep.cons rfl (Keep.cons rfl (Keep.cons rfl (Keep.cons rfl (Keep.cons rfl (Keep.cons rfl (Keep.cons rfl (Keep.cons rfl (Keep.cons rfl (Keep.cons rfl (Keep.cons rfl (Keep.cons rfl (Keep.cons rfl (Keep.cons rfl (Keep.cons rfl (Keep.cons rfl (Keep.cons rfl (Keep.cons rfl (Keep.app rfl (Keep.rm rfl Keep.base))))))))))))))))))))))))))))⟩, by omega⟩
       rw [← procN_next]
       exact RowA_spl hR2 (by omega) (by omega) (by first | (simp; done) | (simp; omega)) (by simp_all)
      ·have hG7 := hg7; try simp only [gS] at hG7
       refine oq_off hf ?_; clear hf a; intro a hf
       refine oq_off hf ?_; clear hf a; intro a hf
       refine oq_off hf ?_; clear hf a; intro a hf
       refine oq_off hf ?_; clear hf a; intro a hf
       refine oq_off hf ?_; clear hf a; intro a hf
       refine oq_v hf (y_pf rfl rfl) ?_; clear hf a; intro a hf
       refine oq_v hf (yv_fieldAddr Tryd.fo_73_1 rfl) ?_; clear hf a; intro a hf
       refine oq_v hf (y_ia Tryd.ae_71 rfl rfl) ?_; clear hf a; intro a hf
       refine oq_v hf (y_ia Tryd.ae_70 rfl rfl) ?_; clear hf a; intro a hf
       refine q_end fun w hh => ?_
       refine o_store hf hh Tryd.sz_4 fun w hh => ?_
       refine ops_end ?_
       refine blk_n ?_
       refine then_n ?_
       refine sy_ops ?_
       refine o_v hf hh (y_add rfl rfl) ?_; clear hf a; intro a hf
       refine o_v hf hh (yv_move rfl) ?_; clear hf a; intro a hf
       refine ops_end ?_
       refine then_n ?_
       refine ⟨k + 1, ⟨⟨by omega, _, ?_, hh⟩, (hf.head (by repeat' (first | exact True.intro | refine And.intro rfl ?_)) (Keep.cons rfl (Keep.cons rfl (Keep.cons rfl (Keep.cons rfl (Keep.cons rfl (Keep.cons rfl (Keep.cons rfl (Keep.cons rfl (Keep.cons rfl (Keep.cons rfl (Keep.cons rfl (Keep.cons rfl (Keep.cons rfl (Keep.cons rfl (Keep.cons rfl (Keep.cons rfl (Keep.cons rfl (Keep.cons rfl (Keep.cons rfl (Keep.cons rfl (Keep.cons rfl (Keep.cons rfl (Keep.cons rfl (Keep.cons rfl (Keep.cons rfl (Keep.app rfl (Keep.rm rfl Keep.base))))))))))))))))))))))))))))⟩, by omega⟩
       rw [← procN_next]
       exact RowA_spl hR2 (by omega) (by omega) (by first | (simp; done) | (simp; omega)) (by simp_all)
     ·have hG5 := hg5; try simp only [gS] at hG5
      refine sy_exit ?_
      refine then_e ?_
      refine then_e ?_
      refine blk_e ?_
      refine blk_n ?_
      refine then_n ?_
      refine sy_ops ?_
      refine o_v hf hh (y_add rfl rfl) ?_; clear hf a; intro a hf
      refine o_v hf hh (yv_move rfl) ?_; clear hf a; intro a hf
      refine ops_end ?_
      refine then_n ?_
      exact ⟨i + 1, ⟨⟨by omega, cs2, by rw [← procN_row (fun x y h => (hF x y h).2), ← (show k = d.r.length by omega)]; exact hR2, hh⟩, (hf.head (by repeat' (first | exact True.intro | refine And.intro rfl ?_)) (Keep.cons rfl (Keep.cons rfl (Keep.cons rfl (Keep.app rfl (Keep.rm rfl (Keep.cons rfl (Keep.cons rfl (Keep.cons rfl (Keep.cons rfl (Keep.cons rfl (Keep.cons rfl (Keep.cons rfl (Keep.cons rfl (Keep.cons rfl (Keep.cons rfl (Keep.app rfl (Keep.rm rfl Keep.base))))))))))))))))))⟩, by omega⟩
   ·have hG3 := hg3; try simp only [gS] at hG3
    refine sy_exit ?_
    refine then_e ?_
    refine then_e ?_
    refine blk_e ?_
    refine then_n ?_
    refine sy_sq ?_
    refine o_v hf hh (yv_assign rfl) ?_; clear hf a; intro a hf
    refine o_end ?_
    refine sy_ret ?_
    refine ret_r hf rfl rfl ?_
    have hie : i = d.l.length := by omega
    subst hie
    exact ⟨B5, cs1, rfl, procN_all (fun x y h => (hF x y h).1) ▸ hR, hh⟩
end Go.Proofs.YtemmhdgaagaglaaDoor
namespace Go.Proofs.YtemmhdgaagaglaaDoor
open Go Go.Sy Go.MatM
theorem eb3 : eq3B Tryd.prog 122 = true := by kernel_rfl
theorem mke : mapKE Tryd.prog 119 = some (122, 3) := by kernel_rfl
theorem ze3 : zeroOf Tryd.prog 3 = some (.int .i64 0) := by kernel_rfl
/-- What the memory of ways says of a state. -/
def memK (F : Nat → Nat → Bool) (L R : Nat) : Int × Int × Int → Int := fun p => ((cnt F L R p.1.toNat p.2.1.toNat p.2.2.toNat : Nat) : Int)
/-- How many ways the first pairs begin. -/
def sumK (F : Nat → Nat → Bool) (L R i k n j : Nat) : Nat := (if n = 0 then 1 else 0) + (((prs F L R i k).take j).map fun p => cnt F L R (p.1 + 1) (p.2 + 1) (n - 1)).sum
theorem sumK_zero {F : Nat → Nat → Bool} {L R i k n : Nat} : sumK F L R i k n 0 = if n = 0 then 1 else 0 := by simp [sumK]
theorem sumK_all {F : Nat → Nat → Bool} {L R i k n : Nat} : sumK F L R i k n (prs F L R i k).length = cnt F L R i k n := by rw [sumK, List.take_length, cnt_eq]
theorem sumK_step {F : Nat → Nat → Bool} {L R i k n j : Nat} {p : Pr} (h : (prs F L R i k)[j]? = some p) : sumK F L R i k n (j + 1) = sumK F L R i k n j + cnt F L R (p.1 + 1) (p.2 + 1) (n - 1) := by
  unfold sumK
  rw [List.take_add_one, h, Option.toList_some, List.map_append, List.sum_append]
  simp; omega
theorem sum_take {l : List Pr} {f : Pr → Nat} (j : Nat) : ((l.take j).map f).sum ≤ (l.map f).sum := by
  conv => rhs; rw [← List.take_append_drop j l]
  rw [List.map_append, List.sum_append]; omega
theorem sumK_le {F : Nat → Nat → Bool} {L R i k n j : Nat} (hL : L ≤ 10) (hR : R ≤ 10) : sumK F L R i k n j ≤ 1048576 := by
  refine Nat.le_trans ?_ (cnt_le (F := F) (i := i) (k := k) (n := n) hL hR)
  rw [cnt_eq]
  exact Nat.add_le_add_left (sum_take j) _
/-- Where the closure that counts lies. -/
structure FndC (w : World) (d : RowsD) (sa sb : Option Addr) (ca cb : Nat) (F : Nat → Nat → Bool) (rb bm Bm Br Bf : Nat) : Prop where
  ro : RowO w rb d sa sb ca cb F
  cm : w.heap[Bm]? = some (.cells #[.map (some bm)] 119 (0, 0))
  cr : w.heap[Br]? = some (.cells #[ptr rb 0] 74 (0, 0))
  cf : w.heap[Bf]? = some (.cells #[.func (.func 86) #[] #[ptr Bm 0, ptr Br 0, ptr Bf 0]] 120 (0, 0))
  nr : rb ∉ [bm]
  nm : Bm ∉ [bm]
  nb : Br ∉ [bm]
  nf : Bf ∉ [bm]
theorem FndC.ext {w w' : World} {d : RowsD} {sa sb : Option Addr} {ca cb : Nat} {F : Nat → Nat → Bool} {rb bm Bm Br Bf : Nat} (h : FndC w d sa sb ca cb F rb bm Bm Br Bf) (e : Ext [bm] w w') : FndC w' d sa sb ca cb F rb bm Bm Br Bf :=
  ⟨h.ro.extM e h.nr, e.getM h.cm h.nm, e.getM h.cr h.nb, e.getM h.cf h.nf, h.nr, h.nm, h.nb, h.nf⟩
theorem c86 (d : RowsD) (sa sb : Option Addr) (ca cb : Nat) (F : Nat → Nat → Bool) (rb bm Bm Br Bf : Nat) : ∀ (m i k n cm : Nat) (es : Array MapEntry) (u : World) (hm : u.heap[bm]? = some (.map es cm)) (hM : MemoK enc3 .i64 (memK F d.l.length d.r.length) es) (hC : FndC u d sa sb ca cb F rb bm Bm Br Bf) (hfu : d.l.length - i < m) (hi : i ≤ 10) (hk : k ≤ 10) (hn : n ≤ 20),
    Calls Tryd.prog 86 #[enc3 ((i : Nat), (k : Nat), (n : Nat)), ptr Bm 0, ptr Br 0, ptr Bf 0] u (Ret fun v w' => v = .int .i64 (cnt F d.l.length d.r.length i k n : Nat) ∧ ∃ es' c', MemoK enc3 .i64 (memK F d.l.length d.r.length) es' ∧ Hp u [bm] [(bm, .map es' c')] w') := by
  intro m
  induction m with
  | zero => intro i k n cm es u hm hM hC hfu; omega
  | succ m ih =>
  intro i k n cm es u hm hM hC hfu hi hk hn
  have h2 := hC.cm; have h3 := hC.cr; have h4 := hC.cf; have n2 := hC.nm; have n3 := hC.nb; have n4 := hC.nf
  have hnl := hC.ro.nl; have hnr := hC.ro.nr
  refine calls_ofM Tryd.func86 rfl rfl (fun a hf => ?_)
  have hh := Hp.init1 hm
  refine sy_sq ?_
  refine o_box hf hh ?_; clear hf hh a; intro B4 a w hf hh
  refine o_v hf hh (yv_assign rfl) ?_; clear hf a; intro a hf
  refine o_end ?_
  refine sy_seq ?_
  refine sy_sq ?_
  refine o_v hf hh (y_ld Tryd.sc_119 rfl) ?_; clear hf a; intro a hf
  refine o_v hf hh (y_lds Tryd.ag_122 rfl) ?_; clear hf a; intro a hf
  refine ops_lookupK (i := 1) (p := (((i : Nat) : Int), ((k : Nat) : Int), ((n : Nat) : Int))) hf hh (key3 eb3) mke ze3 rfl rfl rfl hM (.inl rfl) rfl fun b a hf => ?_
  refine o_v hf hh (yv_move rfl) ?_; clear hf a; intro a hf
  refine o_v hf hh (yv_extract rfl rfl) ?_; clear hf a; intro a hf
  refine o_v hf hh (yv_extract rfl rfl) ?_; clear hf a; intro a hf
  refine o_v hf hh (yv_assign rfl) ?_; clear hf a; intro a hf
  refine o_v hf hh (yv_assign rfl) ?_; clear hf a; intro a hf
  refine o_end ?_
  refine sy_sq ?_
  refine o_v hf hh (yv_move rfl) ?_; clear hf a; intro a hf
  refine o_end ?_
  refine sy_cond hf rfl (fun hg4 => ?_) (fun hg4 => ?_)
  ·have hG4 := hg4; try simp only [gS] at hG4
   refine sy_sq ?_
   refine o_v hf hh (yv_move rfl) ?_; clear hf a; intro a hf
   refine o_v hf hh (yv_assign rfl) ?_; clear hf a; intro a hf
   refine o_end ?_
   refine sy_ret ?_
   refine then_r ?_
   rename_i hb
   refine ret_m (Ds := []) hf hh fun w' hh => ⟨[.int .i64 (cnt F d.l.length d.r.length i k n : Nat)], ⟨?_, True.intro⟩, rfl, es, cm, hM, hh.less (.cons _ (.refl _))⟩
   exact congrArg (fun z => some (Value.int .i64 z)) (if_pos (by assumption))
  ·have hG4 := hg4; try simp only [gS] at hG4
   refine sy_skip ?_
   refine then_n ?_
   refine sy_sq ?_
   refine o_alloc hf hh Tryd.ze_3 ?_; clear hf hh a; intro B8 a w hf hh
   refine o_store hf hh Tryd.sz_3 fun w hh => ?_
   refine o_end ?_
   refine sy_seq ?_
   refine sy_sq ?_
   refine o_v hf hh (yv_fieldAddr Tryd.fo_122_2 rfl) ?_; clear hf a; intro a hf
   refine o_v hf hh (y_ld Tryd.sc_3 rfl) ?_; clear hf a; intro a hf
   refine o_v hf hh (yv_bin rfl rfl rfl) ?_; clear hf a; intro a hf
   refine o_end ?_
   refine sy_cond hf rfl (fun hg6 => ?_) (fun hg6 => ?_)
   ·have hG6 := hg6; try simp only [gS] at hG6
    refine sy_ops ?_
    refine o_store hf hh Tryd.sz_3 fun w hh => ?_
    refine o_end ?_
    refine sy_seq ?_
    refine sy_seq ?_
    have e0 : ∃ z : Nat, z = sumK F d.l.length d.r.length i k n 0 ∧ Hp u [bm] [(B8, .cells #[.int .i64 z] 3), (B4, .cells #[.int .i64 i, .int .i64 k, .int .i64 n] 122), (bm, .map es cm)] w := by
      first
        | exact ⟨1, by rw [sumK_zero, if_pos (by omega)], hh⟩
        | exact ⟨0, by rw [sumK_zero, if_neg (by omega)], hh⟩
    clear hh
    obtain ⟨z, rfl, hh⟩ := e0
    refine sy_ops ?_
    refine o_v hf hh (y_ld Tryd.sc_74 rfl) ?_; clear hf a; intro a hf
    refine o_v hf hh (yv_fieldAddr Tryd.fo_122_0 rfl) ?_; clear hf a; intro a hf
    refine o_v hf hh (y_ld Tryd.sc_3 rfl) ?_; clear hf a; intro a hf
    refine o_v hf hh (yv_fieldAddr Tryd.fo_122_1 rfl) ?_; clear hf a; intro a hf
    refine o_v hf hh (y_ld Tryd.sc_3 rfl) ?_; clear hf a; intro a hf
    refine o_call hf Tryd.en_51 rfl rfl rfl (c51 rb i k _) ?_; clear hf a; intro v a w hR hf
    obtain ⟨Ba, Bi, Bk, rfl, hx⟩ := hR; replace hh := hh.join hx; clear hx
    refine o_end ?_
    refine sy_block ?_
    refine sy_range (I := fun j H => ∃ es2 cm2, MemoK enc3 .i64 (memK F d.l.length d.r.length) es2 ∧ H = [(Bk, .cells #[.int .i64 k] 3), (Bi, .cells #[.int .i64 i] 3), (Ba, .cells #[ptr rb 0] 74), (B8, .cells #[.int .i64 (sumK F d.l.length d.r.length i k n j : Nat)] 3), (B4, .cells #[.int .i64 i, .int .i64 k, .int .i64 n] 122), (bm, .map es2 cm2)]) (X := fun _ _ _ => False) hf hh Tryd.en_89 rfl (it89 d sa sb ca cb F rb i k Ba Bi Bk) rfl (by intro x hx; obtain ⟨y, _, rfl⟩ := List.mem_map.1 hx; rfl) ?_ ?_ ?_ ?_ ?_
    · exact ⟨es, cm, hM, rfl⟩
    · rintro _ _ l D o w ⟨es2, cm2, hM2, rfl⟩ h
      exact ⟨h.at (i := 4) rfl, h.at (i := 3) rfl, h.at (i := 2) rfl, (hC.ext h.ext).ro⟩
    ·rintro j x fn D l H w a tm hx ⟨es, cm, hM, rfl⟩ hh hf
     obtain ⟨p, hp, rfl⟩ : ∃ p, (prs F d.l.length d.r.length i k)[j]? = some p ∧ x = tp p := by
       rw [List.getElem?_map] at hx
       cases e : (prs F d.l.length d.r.length i k)[j]? with
       | none => rw [e] at hx; cases hx
       | some p => rw [e] at hx; cases hx; exact ⟨p, rfl, rfl⟩
     refine sy_ops ?_
     refine o_alloc hf hh Tryd.ze_45 ?_; clear hf hh a; intro B9 a w hf hh
     refine o_store hf hh Tryd.sz_45 fun w hh => ?_
     refine ops_end ?_
     refine then_n (Go.Sy.begun (i := 1) hh rfl fun w hh => ?_)
     refine sy_block ?_
     have hsl := sumK_le (F := F) (i := i) (k := k) (n := n) (j := j) hnl hnr
     have hsl2 := sumK_le (F := F) (i := i) (k := k) (n := n) (j := j + 1) hnl hnr
     have hst := sumK_step (n := n) hp
     have hpb := mem_prs.1 (List.mem_of_getElem? hp)
     refine sy_mix (C := (CW enc3 .i64 (memK F d.l.length d.r.length) u [bm] fun es cm => [(B9, .cells #[.int .i64 p.1, .int .i64 p.2] 45), (B8, .cells #[.int .i64 (sumK F d.l.length d.r.length i k n j : Nat)] 3), (B4, .cells #[.int .i64 i, .int .i64 k, .int .i64 n] 122), (bm, .map es cm)])) [0, 1, 2, 3, 4, 5, 6, 7, 8, 9, 10, 11, 12, 13, 14, 15] [0, 1, 2, 3, 4, 5, 6, 7, 8, 9, 10, 11, 12, 14] [15] Tryd.follows (by kernel_rfl) hh (fun w hh => ?_)
     refine mx_v rfl rfl (CW.mk hM (hh.less (.cons_cons _ (.cons _ (.cons _ (.cons _ (.cons _ (.cons _ (.refl _))))))))) hf (y_ld Tryd.sc_3 rfl) (.inl rfl) rfl rfl ?_; clear hf a; intro a hf
     refine mx_v rfl rfl (CW.mk hM (hh.less (.cons_cons _ (.cons _ (.cons _ (.cons _ (.cons _ (.cons _ (.refl _))))))))) hf (y_ld Tryd.sc_120 rfl) (.inl rfl) rfl rfl ?_; clear hf a; intro a hf
     refine mx_v rfl rfl (CW.mk hM (hh.less (.cons_cons _ (.cons _ (.cons _ (.cons _ (.cons _ (.cons _ (.refl _))))))))) hf (y_ia Tryd.ae_45 rfl rfl) (.inl rfl) rfl rfl ?_; clear hf a; intro a hf
     refine mx_v rfl rfl (CW.mk hM (hh.less (.cons_cons _ (.cons _ (.cons _ (.cons _ (.cons _ (.cons _ (.refl _))))))))) hf (y_ld Tryd.sc_3 rfl) (.inl rfl) rfl rfl ?_; clear hf a; intro a hf
     refine mx_v rfl rfl (CW.mk hM (hh.less (.cons_cons _ (.cons _ (.cons _ (.cons _ (.cons _ (.cons _ (.refl _))))))))) hf (yv_cast (yv_add rfl rfl (by omega) (by omega)) (intv (b := ((p.1 + 1 : Nat) : Int)) (by omega))) (.inl rfl) rfl rfl ?_; clear hf a; intro a hf
     refine mx_v rfl rfl (CW.mk hM (hh.less (.cons_cons _ (.cons _ (.cons _ (.cons _ (.cons _ (.cons _ (.refl _))))))))) hf (y_ia Tryd.ae_45 rfl rfl) (.inl rfl) rfl rfl ?_; clear hf a; intro a hf
     refine mx_v rfl rfl (CW.mk hM (hh.less (.cons_cons _ (.cons _ (.cons _ (.cons _ (.cons _ (.cons _ (.refl _))))))))) hf (y_ld Tryd.sc_3 rfl) (.inl rfl) rfl rfl ?_; clear hf a; intro a hf
     refine mx_v rfl rfl (CW.mk hM (hh.less (.cons_cons _ (.cons _ (.cons _ (.cons _ (.cons _ (.cons _ (.refl _))))))))) hf (yv_cast (yv_add rfl rfl (by omega) (by omega)) (intv (b := ((p.2 + 1 : Nat) : Int)) (by omega))) (.inl rfl) rfl rfl ?_; clear hf a; intro a hf
     refine mx_v rfl rfl (CW.mk hM (hh.less (.cons_cons _ (.cons _ (.cons _ (.cons _ (.cons _ (.cons _ (.refl _))))))))) hf (yv_fieldAddr Tryd.fo_122_2 rfl) (.inl rfl) rfl rfl ?_; clear hf a; intro a hf
     refine mx_v rfl rfl (CW.mk hM (hh.less (.cons_cons _ (.cons _ (.cons _ (.cons _ (.cons _ (.cons _ (.refl _))))))))) hf (y_ld Tryd.sc_3 rfl) (.inl rfl) rfl rfl ?_; clear hf a; intro a hf
     refine mx_v rfl rfl (CW.mk hM (hh.less (.cons_cons _ (.cons _ (.cons _ (.cons _ (.cons _ (.cons _ (.refl _))))))))) hf (y_sub rfl rfl) (.inl rfl) rfl rfl ?_; clear hf a; intro a hf
     refine mx_v rfl rfl (CW.mk hM (hh.less (.cons_cons _ (.cons _ (.cons _ (.cons _ (.cons _ (.cons _ (.refl _))))))))) hf (yv_cast (yv_max rfl rfl) (intv (b := ((n - 1 : Nat) : Int)) (by omega))) (.inl rfl) rfl rfl ?_; clear hf a; intro a hf
     refine mx_v rfl rfl (CW.mk hM (hh.less (.cons_cons _ (.cons _ (.cons _ (.cons _ (.cons _ (.cons _ (.refl _))))))))) hf (yv_buildS Tryd.bs_122 rfl rfl) (.inl rfl) rfl rfl ?_; clear hf a; intro a hf
     refine mx_e rfl rfl fun Q1 => ?_
     refine o_call hf Tryd.en_86 rfl rfl rfl (ih (p.1 + 1) (p.2 + 1) (n - 1) _ _ _ (hh.at (i := 8) rfl) hM (hC.ext hh.ext) (by omega) (by omega) (by omega) (by omega)) ?_; clear hf a; intro v a w hR hf
     obtain ⟨rfl, es, cm, hM, hx⟩ := hR; replace hh := hh.turn (i := 8) rfl hx.ext (hx.at (i := 0) rfl); clear hx
     refine ops_end ?_
     refine then_n ⟨fun _ => (CW.mk hM (hh.less (.cons_cons _ (.cons _ (.cons _ (.cons _ (.cons _ (.cons _ (.refl _))))))))), ?_⟩
     refine mx_v rfl rfl (CW.mk hM (hh.less (.cons_cons _ (.cons _ (.cons _ (.cons _ (.cons _ (.cons _ (.refl _))))))))) hf (yv_cast (yv_add rfl rfl (by omega) (by omega)) (intv (b := ((sumK F d.l.length d.r.length i k n (j + 1) : Nat) : Int)) (by omega))) (.inl rfl) rfl rfl ?_; clear hf a; intro a hf
     refine mx_e rfl rfl fun Q1 => ?_
     refine o_store hf hh Tryd.sz_3 fun w hh => ?_
     refine ops_end ?_
     refine then_n ⟨fun h => absurd h (by decide), ?_⟩
     refine mx_end ?_
     refine blk_n ?_
     exact ⟨_, ⟨es, cm, hM, rfl⟩, (hh.less (.cons _ (List.Sublist.refl _)))⟩
    ·rintro D H a w ⟨es, cm, hM, rfl⟩ hf hh
     rw [List.length_map, sumK_all] at hh
     refine blk_n ?_
     refine then_n ?_
     refine sy_sq ?_
     refine o_v hf hh (y_ld Tryd.sc_119 rfl) ?_; clear hf a; intro a hf
     refine o_v hf hh (y_lds Tryd.ag_122 rfl) ?_; clear hf a; intro a hf
     refine o_v hf hh (y_ld Tryd.sc_3 rfl) ?_; clear hf a; intro a hf
     refine ops_mapUpdateK (i := 6) (p := (((i : Nat) : Int), ((k : Nat) : Int), ((n : Nat) : Int))) (F := memK F d.l.length d.r.length) hf hh (key3 eb3) mke rfl rfl rfl rfl hM (.inl rfl) fun es cm w hM hh => ?_
     refine o_end ?_
     refine sy_sq ?_
     refine o_v hf hh (y_ld Tryd.sc_3 rfl) ?_; clear hf a; intro a hf
     refine o_v hf hh (yv_assign rfl) ?_; clear hf a; intro a hf
     refine o_end ?_
     refine sy_ret ?_
     exact ret_m (Ds := [D]) hf hh fun w' hh => ⟨[.int .i64 (cnt F d.l.length d.r.length i k n : Nat)], ⟨rfl, True.intro⟩, rfl, es, cm, hM, hh.less (.cons _ (.cons _ (.cons _ (.cons _ (.cons _ (.refl _))))))⟩
    ·rintro j c D H a w hX hf hh
     exact hX.elim
   ·have hG6 := hg6; try simp only [gS] at hG6
    refine sy_skip ?_
    refine then_n ?_
    refine sy_seq ?_
    refine sy_seq ?_
    have e0 : ∃ z : Nat, z = sumK F d.l.length d.r.length i k n 0 ∧ Hp u [bm] [(B8, .cells #[.int .i64 z] 3), (B4, .cells #[.int .i64 i, .int .i64 k, .int .i64 n] 122), (bm, .map es cm)] w := by
      first
        | exact ⟨1, by rw [sumK_zero, if_pos (by omega)], hh⟩
        | exact ⟨0, by rw [sumK_zero, if_neg (by omega)], hh⟩
    clear hh
    obtain ⟨z, rfl, hh⟩ := e0
    refine sy_ops ?_
    refine o_v hf hh (y_ld Tryd.sc_74 rfl) ?_; clear hf a; intro a hf
    refine o_v hf hh (yv_fieldAddr Tryd.fo_122_0 rfl) ?_; clear hf a; intro a hf
    refine o_v hf hh (y_ld Tryd.sc_3 rfl) ?_; clear hf a; intro a hf
    refine o_v hf hh (yv_fieldAddr Tryd.fo_122_1 rfl) ?_; clear hf a; intro a hf
    refine o_v hf hh (y_ld Tryd.sc_3 rfl) ?_; clear hf a; intro a hf
    refine o_call hf Tryd.en_51 rfl rfl rfl (c51 rb i k _) ?_; clear hf a; intro v a w hR hf
    obtain ⟨Ba, Bi, Bk, rfl, hx⟩ := hR; replace hh := hh.join hx; clear hx
    refine o_end ?_
    refine sy_block ?_
    refine sy_range (I := fun j H => ∃ es2 cm2, MemoK enc3 .i64 (memK F d.l.length d.r.length) es2 ∧ H = [(Bk, .cells #[.int .i64 k] 3), (Bi, .cells #[.int .i64 i] 3), (Ba, .cells #[ptr rb 0] 74), (B8, .cells #[.int .i64 (sumK F d.l.length d.r.length i k n j : Nat)] 3), (B4, .cells #[.int .i64 i, .int .i64 k, .int .i64 n] 122), (bm, .map es2 cm2)]) (X := fun _ _ _ => False) hf hh Tryd.en_89 rfl (it89 d sa sb ca cb F rb i k Ba Bi Bk) rfl (by intro x hx; obtain ⟨y, _, rfl⟩ := List.mem_map.1 hx; rfl) ?_ ?_ ?_ ?_ ?_
    · exact ⟨es, cm, hM, rfl⟩
    · rintro _ _ l D o w ⟨es2, cm2, hM2, rfl⟩ h
      exact ⟨h.at (i := 4) rfl, h.at (i := 3) rfl, h.at (i := 2) rfl, (hC.ext h.ext).ro⟩
    ·rintro j x fn D l H w a tm hx ⟨es, cm, hM, rfl⟩ hh hf
     obtain ⟨p, hp, rfl⟩ : ∃ p, (prs F d.l.length d.r.length i k)[j]? = some p ∧ x = tp p := by
       rw [List.getElem?_map] at hx
       cases e : (prs F d.l.length d.r.length i k)[j]? with
       | none => rw [e] at hx; cases hx
       | some p => rw [e] at hx; cases hx; exact ⟨p, rfl, rfl⟩
     refine sy_ops ?_
     refine o_alloc hf hh Tryd.ze_45 ?_; clear hf hh a; intro B9 a w hf hh
     refine o_store hf hh Tryd.sz_45 fun w hh => ?_
     refine ops_end ?_
     refine then_n (Go.Sy.begun (i := 1) hh rfl fun w hh => ?_)
     refine sy_block ?_
     have hsl := sumK_le (F := F) (i := i) (k := k) (n := n) (j := j) hnl hnr
     have hsl2 := sumK_le (F := F) (i := i) (k := k) (n := n) (j := j + 1) hnl hnr
     have hst := sumK_step (n := n) hp
     have hpb := mem_prs.1 (List.mem_of_getElem? hp)
     refine sy_mix (C := (CW enc3 .i64 (memK F d.l.length d.r.length) u [bm] fun es cm => [(B9, .cells #[.int .i64 p.1, .int .i64 p.2] 45), (B8, .cells #[.int .i64 (sumK F d.l.length d.r.length i k n j : Nat)] 3), (B4, .cells #[.int .i64 i, .int .i64 k, .int .i64 n] 122), (bm, .map es cm)])) [0, 1, 2, 3, 4, 5, 6, 7, 8, 9, 10, 11, 12, 13, 14, 15] [0, 1, 2, 3, 4, 5, 6, 7, 8, 9, 10, 11, 12, 14] [15] Tryd.follows (by kernel_rfl) hh (fun w hh => ?_)
     refine mx_v rfl rfl (CW.mk hM (hh.less (.cons_cons _ (.cons _ (.cons _ (.cons _ (.cons _ (.cons _ (.refl _))))))))) hf (y_ld Tryd.sc_3 rfl) (.inl rfl) rfl rfl ?_; clear hf a; intro a hf
     refine mx_v rfl rfl (CW.mk hM (hh.less (.cons_cons _ (.cons _ (.cons _ (.cons _ (.cons _ (.cons _ (.refl _))))))))) hf (y_ld Tryd.sc_120 rfl) (.inl rfl) rfl rfl ?_; clear hf a; intro a hf
     refine mx_v rfl rfl (CW.mk hM (hh.less (.cons_cons _ (.cons _ (.cons _ (.cons _ (.cons _ (.cons _ (.refl _))))))))) hf (y_ia Tryd.ae_45 rfl rfl) (.inl rfl) rfl rfl ?_; clear hf a; intro a hf
     refine mx_v rfl rfl (CW.mk hM (hh.less (.cons_cons _ (.cons _ (.cons _ (.cons _ (.cons _ (.cons _ (.refl _))))))))) hf (y_ld Tryd.sc_3 rfl) (.inl rfl) rfl rfl ?_; clear hf a; intro a hf
     refine mx_v rfl rfl (CW.mk hM (hh.less (.cons_cons _ (.cons _ (.cons _ (.cons _ (.cons _ (.cons _ (.refl _))))))))) hf (yv_cast (yv_add rfl rfl (by omega) (by omega)) (intv (b := ((p.1 + 1 : Nat) : Int)) (by omega))) (.inl rfl) rfl rfl ?_; clear hf a; intro a hf
     refine mx_v rfl rfl (CW.mk hM (hh.less (.cons_cons _ (.cons _ (.cons _ (.cons _ (.cons _ (.cons _ (.refl _))))))))) hf (y_ia Tryd.ae_45 rfl rfl) (.inl rfl) rfl rfl ?_; clear hf a; intro a hf
     refine mx_v rfl rfl (CW.mk hM (hh.less (.cons_cons _ (.cons _ (.cons _ (.cons _ (.cons _ (.cons _ (.refl _))))))))) hf (y_ld Tryd.sc_3 rfl) (.inl rfl) rfl rfl ?_; clear hf a; intro a hf
     refine mx_v rfl rfl (CW.mk hM (hh.less (.cons_cons _ (.cons _ (.cons _ (.cons _ (.cons _ (.cons _ (.refl _))))))))) hf (yv_cast (yv_add rfl rfl (by omega) (by omega)) (intv (b := ((p.2 + 1 : Nat) : Int)) (by omega))) (.inl rfl) rfl rfl ?_; clear hf a; intro a hf
     refine mx_v rfl rfl (CW.mk hM (hh.less (.cons_cons _ (.cons _ (.cons _ (.cons _ (.cons _ (.cons _ (.refl _))))))))) hf (yv_fieldAddr Tryd.fo_122_2 rfl) (.inl rfl) rfl rfl ?_; clear hf a; intro a hf
     refine mx_v rfl rfl (CW.mk hM (hh.less (.cons_cons _ (.cons _ (.cons _ (.cons _ (.cons _ (.cons _ (.refl _))))))))) hf (y_ld Tryd.sc_3 rfl) (.inl rfl) rfl rfl ?_; clear hf a; intro a hf
     refine mx_v rfl rfl (CW.mk hM (hh.less (.cons_cons _ (.cons _ (.cons _ (.cons _ (.cons _ (.cons _ (.refl _))))))))) hf (y_sub rfl rfl) (.inl rfl) rfl rfl ?_; clear hf a; intro a hf
     refine mx_v rfl rfl (CW.mk hM (hh.less (.cons_cons _ (.cons _ (.cons _ (.cons _ (.cons _ (.cons _ (.refl _))))))))) hf (yv_cast (yv_max rfl rfl) (intv (b := ((n - 1 : Nat) : Int)) (by omega))) (.inl rfl) rfl rfl ?_; clear hf a; intro a hf
     refine mx_v rfl rfl (CW.mk hM (hh.less (.cons_cons _ (.cons _ (.cons _ (.cons _ (.cons _ (.cons _ (.refl _))))))))) hf (yv_buildS Tryd.bs_122 rfl rfl) (.inl rfl) rfl rfl ?_; clear hf a; intro a hf
     refine mx_e rfl rfl fun Q1 => ?_
     refine o_call hf Tryd.en_86 rfl rfl rfl (ih (p.1 + 1) (p.2 + 1) (n - 1) _ _ _ (hh.at (i := 8) rfl) hM (hC.ext hh.ext) (by omega) (by omega) (by omega) (by omega)) ?_; clear hf a; intro v a w hR hf
     obtain ⟨rfl, es, cm, hM, hx⟩ := hR; replace hh := hh.turn (i := 8) rfl hx.ext (hx.at (i := 0) rfl); clear hx
     refine ops_end ?_
     refine then_n ⟨fun _ => (CW.mk hM (hh.less (.cons_cons _ (.cons _ (.cons _ (.cons _ (.cons _ (.cons _ (.refl _))))))))), ?_⟩
     refine mx_v rfl rfl (CW.mk hM (hh.less (.cons_cons _ (.cons _ (.cons _ (.cons _ (.cons _ (.cons _ (.refl _))))))))) hf (yv_cast (yv_add rfl rfl (by omega) (by omega)) (intv (b := ((sumK F d.l.length d.r.length i k n (j + 1) : Nat) : Int)) (by omega))) (.inl rfl) rfl rfl ?_; clear hf a; intro a hf
     refine mx_e rfl rfl fun Q1 => ?_
     refine o_store hf hh Tryd.sz_3 fun w hh => ?_
     refine ops_end ?_
     refine then_n ⟨fun h => absurd h (by decide), ?_⟩
     refine mx_end ?_
     refine blk_n ?_
     exact ⟨_, ⟨es, cm, hM, rfl⟩, (hh.less (.cons _ (List.Sublist.refl _)))⟩
    ·rintro D H a w ⟨es, cm, hM, rfl⟩ hf hh
     rw [List.length_map, sumK_all] at hh
     refine blk_n ?_
     refine then_n ?_
     refine sy_sq ?_
     refine o_v hf hh (y_ld Tryd.sc_119 rfl) ?_; clear hf a; intro a hf
     refine o_v hf hh (y_lds Tryd.ag_122 rfl) ?_; clear hf a; intro a hf
     refine o_v hf hh (y_ld Tryd.sc_3 rfl) ?_; clear hf a; intro a hf
     refine ops_mapUpdateK (i := 6) (p := (((i : Nat) : Int), ((k : Nat) : Int), ((n : Nat) : Int))) (F := memK F d.l.length d.r.length) hf hh (key3 eb3) mke rfl rfl rfl rfl hM (.inl rfl) fun es cm w hM hh => ?_
     refine o_end ?_
     refine sy_sq ?_
     refine o_v hf hh (y_ld Tryd.sc_3 rfl) ?_; clear hf a; intro a hf
     refine o_v hf hh (yv_assign rfl) ?_; clear hf a; intro a hf
     refine o_end ?_
     refine sy_ret ?_
     exact ret_m (Ds := [D]) hf hh fun w' hh => ⟨[.int .i64 (cnt F d.l.length d.r.length i k n : Nat)], ⟨rfl, True.intro⟩, rfl, es, cm, hM, hh.less (.cons _ (.cons _ (.cons _ (.cons _ (.cons _ (.refl _))))))⟩
    ·rintro j c D H a w hX hf hh
     exact hX.elim
theorem c47 (d : RowsD) (sa sb : Option Addr) (ca cb : Nat) (F : Nat → Nat → Bool) (rb : Nat) (u : World) (hO : RowO u rb d sa sb ca cb F) (hV : Valid d) : Calls Tryd.prog 47 #[ptr rb 0] u (Ret fun v w' => v = .int .i64 (cnt F d.l.length d.r.length 0 0 (need d) : Nat) ∧ Ext [] u w') := by
  refine calls_of Tryd.func47 rfl rfl (fun a hf => ?_)
  have hh := Hp.init u []
  have hbd := need_bd hV
  have hnd : max 0 (needI d) = ((need d : Nat) : Int) := by unfold need; omega
  have hn20 : need d ≤ 20 := by
    have h1 := hV.nl; have h2 := hV.nr; have h3 := hV.h1
    unfold need needI
    have := Int.tdiv_eq_ediv (a := ((d.l.length + d.r.length : Nat) - d.hid + 1)) (b := 2)
    rw [this, show Int.sign 2 = 1 from rfl]
    split <;> omega
  obtain ⟨cs, hb, hcs⟩ := hO.ex
  have hnc := hcs.need
  have hbl : rb < u.heap.size := (Array.getElem?_eq_some_iff.1 hb).1
  refine sy_sq ?_
  refine o_box hf hh ?_; clear hf hh a; intro B1 a w hf hh
  refine o_v hf hh (yv_assign rfl) ?_; clear hf a; intro a hf
  refine o_end ?_
  refine sy_sq ?_
  refine ops_makeMap hf hh (.inl rfl) rfl ?_; clear hf hh; clear a; intro B5 a w hf hh
  refine o_alloc hf hh Tryd.ze_119 ?_; clear hf hh a; intro B3 a w hf hh
  refine o_store hf hh Tryd.sz_119 fun w hh => ?_
  refine o_end ?_
  refine sy_sq ?_
  refine o_alloc hf hh Tryd.ze_120 ?_; clear hf hh a; intro B4 a w hf hh
  refine o_end ?_
  refine sy_sq ?_
  refine o_v hf hh (yv_makeFunc rfl rfl) ?_; clear hf a; intro a hf
  refine o_store hf hh Tryd.sz_120 fun w hh => ?_
  refine o_end ?_
  refine sy_seq ?_
  refine sy_tail (C := Hp _ _ _) 7 Tryd.follows (by kernel_rfl) rfl rfl (hh.drawn _) ?_
  refine oq_v hf (y_ld Tryd.sc_120 rfl) ?_; clear hf a; intro a hf
  refine oq_v hf (y_ld Tryd.sc_74 rfl) ?_; clear hf a; intro a hf
  refine oq_v hf (yv_nilCheck rfl) ?_; clear hf a; intro a hf
  refine oq_v hf (yv_fieldAddr Tryd.fo_73_2 rfl) ?_; clear hf a; intro a hf
  refine oq_v hf (y_ld Tryd.sc_3 rfl) ?_; clear hf a; intro a hf
  refine q_v hf (yv_cast (yv_max rfl rfl) (intv (b := ((need d : Nat) : Int)) hnd)) (.inl rfl) rfl rfl ?_; clear hf a; intro a hf
  refine oq_v hf (yv_buildS Tryd.bs_122 rfl rfl) ?_; clear hf a; intro a hf
  refine q_end fun w hh => ?_
  have hnn : [B4, B3, B5, B1].Nodup := hh.nodup
  simp only [List.nodup_cons, List.mem_cons, List.not_mem_nil, not_or, or_false] at hnn
  have hmm := hh.mine (B5, .map #[] 0) (by simp)
  simp only [List.not_mem_nil, or_false] at hmm
  refine o_call hf Tryd.en_86 rfl rfl rfl (c86 d sa sb ca cb F rb B5 B3 B1 B4 11 0 0 (need d) _ _ _ (hh.at (i := 2) rfl) (MemoK.nil _ _ _) ⟨hO.ext hh.ext, hh.at (i := 1) rfl, hh.at (i := 3) rfl, hh.at (i := 0) rfl, by simp only [List.mem_singleton]; omega, by simp only [List.mem_singleton]; omega, by simp only [List.mem_singleton]; omega, by simp only [List.mem_singleton]; omega⟩ (by have := hO.nl; omega) (by omega) (by omega) hn20) ?_; clear hf a; intro v a w hR hf
  obtain ⟨rfl, es, cm, hM, hx⟩ := hR; replace hh := hh.turn (i := 2) rfl hx.ext (hx.at (i := 0) rfl); clear hx
  refine o_v hf hh (yv_assign rfl) ?_; clear hf a; intro a hf
  refine o_end ?_
  refine sy_ret ?_
  refine ret_r hf rfl rfl ?_
  exact ⟨rfl, hh.ext⟩
end Go.Proofs.YtemmhdgaagaglaaDoor
namespace Go.MatM
open Go Go.Sy
theorem grid11 {m : Nat} {G : Nat → Nat → Int} {cs : Array Value} (h : Grid m 11 G cs) {i k : Nat} (hi : i < m) (hk : k < 11) : cs[0 + ((i : Nat) : Int).toNat * 11 + ((k : Nat) : Int).toNat * 1]? = some (.int .i64 (G i k)) := by
  simpa using h.get i k hi hk
/-- The grid that is filled from its end on. -/
def procM (F : Nat → Nat → Bool) (L R s t : Nat) : Nat → Nat → Int := fun x y => if s ≤ x ∨ s = x + 1 ∧ t ≤ y then ((mos F L R x y : Nat) : Int) else 0
abbrev mosG (F : Nat → Nat → Bool) (L R : Nat) : Nat → Nat → Int := fun x y => ((mos F L R x y : Nat) : Int)
theorem procM_start {F : Nat → Nat → Bool} {L R : Nat} (x y : Nat) : procM F L R L R x y = 0 := by
  unfold procM
  split
  · rename_i h; rw [mos_zero (by omega)]; rfl
  · rfl
theorem procM_row {F : Nat → Nat → Bool} {L R i : Nat} (x y : Nat) : procM F L R (i + 1) 0 x y = procM F L R i R x y := by
  unfold procM
  by_cases h1 : i ≤ x
  · rw [if_pos (by omega), if_pos (.inl h1)]
  · rw [if_neg (by omega)]
    by_cases h2 : i = x + 1 ∧ R ≤ y
    · rw [if_pos (.inr h2), mos_zero (.inr h2.2)]; rfl
    · rw [if_neg (by omega)]
theorem procM_step {F : Nat → Nat → Bool} {L R i k : Nat} {v : Int} (hv : v = (mos F L R i k : Nat)) (x y : Nat) : updG (procM F L R (i + 1) (k + 1)) i k v x y = procM F L R (i + 1) k x y := by
  subst hv
  unfold updG procM
  by_cases h : x = i ∧ y = k
  · rw [if_pos h, if_pos (by omega), h.1, h.2]
  · rw [if_neg h]
    by_cases h2 : i + 1 ≤ x ∨ i + 1 = x + 1 ∧ k + 1 ≤ y
    · rw [if_pos h2, if_pos (by omega)]
    · rw [if_neg h2, if_neg (by omega)]
theorem procM_end {F : Nat → Nat → Bool} {L R : Nat} (x y : Nat) : procM F L R 0 R x y = mosG F L R x y := by
  unfold procM; rw [if_pos (by omega)]
theorem updG_updG {G : Nat → Nat → Int} {i k : Nat} {v v' : Int} : updG (updG G i k v) i k v' = updG G i k v' := by
  funext x y; unfold updG; split <;> rfl
/-- A set, by bits: the numbers below one of which something holds. -/
def setF (p : Nat → Bool) : Nat → Nat
  | 0 => 0
  | n + 1 => if p n then setF p n + 2 ^ n else setF p n
theorem setF_lt (p : Nat → Bool) : ∀ n, setF p n < 2 ^ n
  | 0 => by simp [setF]
  | n + 1 => by
    have := setF_lt p n
    rw [setF, Nat.pow_succ]; split <;> omega
theorem setF_or (p : Nat → Bool) (n : Nat) : setF p n ||| 2 ^ n = setF p n + 2 ^ n := by
  have h := Nat.two_pow_add_eq_or_of_lt (setF_lt p n) 1
  rw [Nat.mul_one] at h
  rw [Nat.or_comm, ← h, Nat.add_comm]
theorem setF_congr {p q : Nat → Bool} : ∀ {n : Nat}, (∀ i, i < n → p i = q i) → setF p n = setF q n
  | 0, _ => rfl
  | n + 1, h => by rw [setF, setF, h n (by omega), setF_congr fun i hi => h i (by omega)]
theorem setF_bit (p : Nat → Bool) : ∀ (n i : Nat), (setF p n).testBit i = (decide (i < n) && p i)
  | 0, i => by simp [setF]
  | n + 1, i => by
    have hlt := setF_lt p n
    rw [setF]
    by_cases hp : p n = true
    · rw [if_pos hp, ← setF_or, Nat.testBit_or, setF_bit p n i, Nat.testBit_two_pow]
      by_cases h : i < n
      · simp [h, show i < n + 1 by omega, show ¬ n = i by omega]
      · by_cases h2 : n = i
        · subst h2; simp [hp]
        · simp [h, h2, show ¬ i < n + 1 by omega]
    · rw [if_neg hp, setF_bit p n i]
      by_cases h : i < n
      · simp [h, show i < n + 1 by omega]
      · by_cases h2 : i = n
        · subst h2; simp [hp]
        · simp [h, show ¬ i < n + 1 by omega]
/-- Are two marks a pair in some way of so many pairs? -/
def canB (F : Nat → Nat → Bool) (L R n i k : Nat) : Bool := F i k && decide (n ≤ mos (fun a b => F a b && okP i k a b) L R 0 0)
/-- Is a left mark, or a right one, hidden in some way? -/
def hidB (F : Nat → Nat → Bool) (L R n : Nat) (l r : Int) : Bool := decide (n ≤ mos (fun a b => F a b && !(decide ((a : Int) = l) || decide ((b : Int) = r))) L R 0 0)
theorem canB_iff {F : Nat → Nat → Bool} {L R n i k : Nat} (hi : i < L) (hk : k < R) : canB F L R n i k = true ↔ canP F L R n i k := by
  rw [can_iff hi hk]; simp [canB]
theorem hidB_l {F : Nat → Nat → Bool} {L R n i : Nat} : hidB F L R n i (-1) = true ↔ hidL F L R n i := by
  rw [hidL_iff]
  unfold hidB
  rw [decide_eq_true_eq, mos_congr (G := fun a b => F a b && !decide (a = i))]
  intro a b _ _
  have : decide ((b : Int) = -1) = false := decide_eq_false (by omega)
  rw [this, Bool.or_false]
  congr 2
  rw [decide_eq_decide]; omega
theorem hidB_r {F : Nat → Nat → Bool} {L R n k : Nat} : hidB F L R n (-1) k = true ↔ hidR F L R n k := by
  rw [hidR_iff]
  unfold hidB
  rw [decide_eq_true_eq, mos_congr (G := fun a b => F a b && !decide (b = k))]
  intro a b _ _
  have : decide ((a : Int) = -1) = false := decide_eq_false (by omega)
  rw [this, Bool.false_or]
  congr 2
  rw [decide_eq_decide]; omega
end Go.MatM
namespace Go.Proofs.YtemmhdgaagaglaaDoor
open Go Go.Sy Go.MatM
theorem c50 (d : RowsD) (sa sb : Option Addr) (ca cb : Nat) (F : Nat → Nat → Bool) (rb : Nat) (u : World) (hO : RowO u rb d sa sb ca cb F) : Calls Tryd.prog 50 #[ptr rb 0] u (Ret fun v w' => v = .agg (gridV 11 11 (mosG F d.l.length d.r.length)) ∧ Ext [] u w') := by
  refine calls_of Tryd.func50 rfl rfl (fun a hf => ?_)
  have hh := Hp.init u []
  obtain ⟨⟨rs, hb, hcs⟩, hnl, hnr⟩ := hO
  have c0 := hcs.l; have c1 := hcs.r
  refine sy_sq ?_
  refine o_alloc hf hh Tryd.ze_82 ?_; clear hf hh a; intro B2 a w hf hh
  refine o_end ?_
  refine sy_seq ?_
  refine sy_sq ?_
  refine o_v hf hh (yv_move rfl) ?_; clear hf a; intro a hf
  refine o_v hf hh (yv_nilCheck rfl) ?_; clear hf a; intro a hf
  refine o_v hf hh (yv_fieldAddr Tryd.fo_73_0 rfl) ?_; clear hf a; intro a hf
  refine o_v hf hh (yv_fieldAddr Tryd.fo_26_0 rfl) ?_; clear hf a; intro a hf
  refine o_v hf hh (y_ld Tryd.sc_22 rfl) ?_; clear hf a; intro a hf
  refine o_v hf hh (yv_len Tryd.se_22 rfl) ?_; clear hf a; intro a hf
  refine o_v hf hh (y_sub rfl rfl) ?_; clear hf a; intro a hf
  refine o_v hf hh (yv_assign rfl) ?_; clear hf a; intro a hf
  refine o_end ?_
  refine sy_block ?_
  refine sy_loopH (σ := Nat) [3, 4, 12, 13, 14, 15, 16, 17, 18, 19, 20, 21, 22, 23, 24, 25, 26, 27, 28, 29, 30, 31, 32, 33, 34, 35, 36, 37, 38, 39, 40, 41, 42, 43, 44, 45, 46, 47, 48, 49, 50, 51, 52, 53, 54, 55, 56, 57, 58, 59, 60, 61, 62, 63, 64, 65, 66, 67, 68, 69] (fun s => [(3, .int .i64 ((s : Nat) - 1))]) (fun s => fun w => s ≤ d.l.length ∧ ∃ cs, Grid 11 11 (procM F d.l.length d.r.length s d.r.length) cs ∧ Hp u [] [(B2, .cells cs 82)] w) (fun s => s) (d.l.length) hf ?_ ?_ ?_
  · repeat' (first | exact True.intro | refine And.intro rfl ?_)
  · refine ⟨Nat.le_refl _, _, ?_, hh⟩
    exact (grid_zero (m := 11) (c := 11) rfl rfl).congr fun x y _ _ => (procM_start x y).symm
  ·rintro s a w ⟨hs, cs, hG, hh⟩ hf
   refine sy_seq ?_
   refine sy_sq ?_
   refine o_v hf hh (yv_move rfl) ?_; clear hf a; intro a hf
   refine o_v hf hh (yv_bin rfl rfl rfl) ?_; clear hf a; intro a hf
   refine o_end ?_
   refine sy_cond hf rfl (fun hg2 => ?_) (fun hg2 => ?_)
   ·have hG2 := hg2; try simp only [gS] at hG2
    refine sy_skip ?_
    refine then_n ?_
    refine sy_seq ?_
    refine sy_block ?_
    refine sy_seq ?_
    obtain ⟨i, rfl⟩ : ∃ i, s = i + 1 := ⟨s - 1, by omega⟩
    rw [show (((i + 1 : Nat) : Int) - 1) = (i : Int) by omega] at hf
    refine sy_ops ?_
    refine o_v hf hh (yv_move rfl) ?_; clear hf a; intro a hf
    refine o_v hf hh (yv_nilCheck rfl) ?_; clear hf a; intro a hf
    refine o_v hf hh (yv_fieldAddr Tryd.fo_73_0 rfl) ?_; clear hf a; intro a hf
    refine o_v hf hh (yv_fieldAddr Tryd.fo_26_1 rfl) ?_; clear hf a; intro a hf
    refine o_v hf hh (y_ld Tryd.sc_22 rfl) ?_; clear hf a; intro a hf
    refine o_v hf hh (yv_len Tryd.se_22 rfl) ?_; clear hf a; intro a hf
    refine o_v hf hh (y_sub rfl rfl) ?_; clear hf a; intro a hf
    refine o_v hf hh (yv_assign rfl) ?_; clear hf a; intro a hf
    refine o_end ?_
    refine sy_block ?_
    refine sy_loopH (σ := Nat) [4, 23, 24, 25, 26, 27, 28, 29, 30, 31, 32, 33, 34, 35, 36, 37, 38, 39, 40, 41, 42, 43, 44, 45, 46, 47, 48, 49, 50, 51, 52, 53, 54, 55, 56, 57, 58, 59, 60, 61, 62, 63, 64, 65, 66, 67, 68, 69] (fun t => [(4, .int .i64 ((t : Nat) - 1))]) (fun t => fun w => t ≤ d.r.length ∧ ∃ cs, Grid 11 11 (procM F d.l.length d.r.length (i + 1) t) cs ∧ Hp u [] [(B2, .cells cs 82)] w) (fun t => t) (d.r.length) hf ?_ ?_ ?_
    · repeat' (first | exact True.intro | refine And.intro rfl ?_)
    · exact ⟨Nat.le_refl _, cs, hG, hh⟩
    ·rintro t a w ⟨ht, cs2, hG2, hh⟩ hf
     refine sy_seq ?_
     refine sy_sq ?_
     refine o_v hf hh (yv_move rfl) ?_; clear hf a; intro a hf
     refine o_v hf hh (yv_bin rfl rfl rfl) ?_; clear hf a; intro a hf
     refine o_end ?_
     refine sy_cond hf rfl (fun hg4 => ?_) (fun hg4 => ?_)
     ·have hG4 := hg4; try simp only [gS] at hG4
      refine sy_skip ?_
      refine then_n ?_
      refine sy_seq ?_
      refine sy_block ?_
      refine sy_seq ?_
      obtain ⟨k, rfl⟩ : ∃ k, t = k + 1 := ⟨t - 1, by omega⟩
      rw [show (((k + 1 : Nat) : Int) - 1) = (k : Int) by omega] at hf
      have hft := hcs.fitA (i := i) (k := k) (by omega) (by omega)
      have hms := mos_step (F := F) (L := d.l.length) (R := d.r.length) (i := i) (k := k) (by omega) (by omega)
      have hb1 := mos_le F d.l.length d.r.length (i + 1) (k + 1)
      have g1 := grid11 hG2 (i := i + 1) (k := k) (by omega) (by omega)
      have g2 := grid11 hG2 (i := i) (k := k + 1) (by omega) (by omega)
      rw [show procM F d.l.length d.r.length (i + 1) (k + 1) (i + 1) k = ((mos F d.l.length d.r.length (i + 1) k : Nat) : Int) by unfold procM; rw [if_pos (by omega)]] at g1
      rw [show procM F d.l.length d.r.length (i + 1) (k + 1) i (k + 1) = ((mos F d.l.length d.r.length i (k + 1) : Nat) : Int) by unfold procM; rw [if_pos (by omega)]] at g2
      have hz2 := hG2.size
      refine sy_tail (C := Hp _ _ _) 17 Tryd.follows (by kernel_rfl) rfl rfl (hh.drawn _) ?_
      refine oq_v hf (yv_move rfl) ?_; clear hf a; intro a hf
      refine oq_v hf (yv_move rfl) ?_; clear hf a; intro a hf
      refine oq_v hf (yv_move rfl) ?_; clear hf a; intro a hf
      refine q_v hf (yv_cast (yv_add rfl rfl (by omega) (by omega)) (intv (b := ((i + 1 : Nat) : Int)) (by omega))) (.inl rfl) rfl rfl ?_; clear hf a; intro a hf
      refine oq_v hf (yv_move rfl) ?_; clear hf a; intro a hf
      refine oq_v hf (y_ia Tryd.ae_82 rfl rfl) ?_; clear hf a; intro a hf
      refine oq_v hf (y_ia Tryd.ae_81 rfl rfl) ?_; clear hf a; intro a hf
      refine oq_v hf (y_ld Tryd.sc_3 rfl) ?_; clear hf a; intro a hf
      refine oq_v hf (yv_move rfl) ?_; clear hf a; intro a hf
      refine oq_v hf (yv_move rfl) ?_; clear hf a; intro a hf
      refine q_v hf (yv_cast (yv_add rfl rfl (by omega) (by omega)) (intv (b := ((k + 1 : Nat) : Int)) (by omega))) (.inl rfl) rfl rfl ?_; clear hf a; intro a hf
      refine oq_v hf (y_ia Tryd.ae_82 rfl rfl) ?_; clear hf a; intro a hf
      refine oq_v hf (y_ia Tryd.ae_81 rfl rfl) ?_; clear hf a; intro a hf
      refine oq_v hf (y_ld Tryd.sc_3 rfl) ?_; clear hf a; intro a hf
      refine oq_v hf (yv_max rfl rfl) ?_; clear hf a; intro a hf
      refine oq_v hf (y_ia Tryd.ae_82 rfl rfl) ?_; clear hf a; intro a hf
      refine oq_v hf (y_ia Tryd.ae_81 rfl rfl) ?_; clear hf a; intro a hf
      refine q_end fun w hh => ?_
      refine o_store hf hh Tryd.sz_3 fun w hh => ?_
      refine o_end ?_
      refine sy_seq ?_
      have hG4 := hG2.set (i := i) (k := k) (off := 0 + ((i : Nat) : Int).toNat * 11 + ((k : Nat) : Int).toNat * 1) (by omega) (by omega) (by first | (simp; done) | (simp; omega)) (max ((mos F d.l.length d.r.length (i + 1) k : Nat) : Int) ((mos F d.l.length d.r.length i (k + 1) : Nat) : Int))
      obtain ⟨cs4, hc4⟩ : ∃ z, z = spl cs2 (0 + ((i : Nat) : Int).toNat * 11 + ((k : Nat) : Int).toNat * 1) [.int .i64 (max ((mos F d.l.length d.r.length (i + 1) k : Nat) : Int) ((mos F d.l.length d.r.length i (k + 1) : Nat) : Int))] := ⟨_, rfl⟩
      rw [← hc4] at hG4
      replace hh : Hp u [] [(B2, .cells cs4 82)] w := hc4 ▸ hh
      have g3 := grid11 hG4 (i := i) (k := k) (by omega) (by omega)
      have g4 := grid11 hG4 (i := i + 1) (k := k + 1) (by omega) (by omega)
      rw [show updG (procM F d.l.length d.r.length (i + 1) (k + 1)) i k (max ((mos F d.l.length d.r.length (i + 1) k : Nat) : Int) ((mos F d.l.length d.r.length i (k + 1) : Nat) : Int)) i k = max ((mos F d.l.length d.r.length (i + 1) k : Nat) : Int) ((mos F d.l.length d.r.length i (k + 1) : Nat) : Int) by unfold updG; rw [if_pos ⟨rfl, rfl⟩]] at g3
      rw [show updG (procM F d.l.length d.r.length (i + 1) (k + 1)) i k (max ((mos F d.l.length d.r.length (i + 1) k : Nat) : Int) ((mos F d.l.length d.r.length i (k + 1) : Nat) : Int)) (i + 1) (k + 1) = ((mos F d.l.length d.r.length (i + 1) (k + 1) : Nat) : Int) by unfold updG procM; rw [if_neg (by omega), if_pos (by omega)]] at g4
      have hz4 := hG4.size
      refine sy_ops ?_
      refine o_v hf hh (yv_move rfl) ?_; clear hf a; intro a hf
      refine o_v hf hh (yv_move rfl) ?_; clear hf a; intro a hf
      refine o_v hf hh (yv_move rfl) ?_; clear hf a; intro a hf
      refine o_v hf hh (yv_nilCheck rfl) ?_; clear hf a; intro a hf
      refine o_v hf hh (yv_fieldAddr Tryd.fo_73_1 rfl) ?_; clear hf a; intro a hf
      refine o_v hf hh (y_ia Tryd.ae_71 rfl rfl) ?_; clear hf a; intro a hf
      refine o_v hf hh (y_ia Tryd.ae_70 rfl rfl) ?_; clear hf a; intro a hf
      refine o_v hf hh (y_ld Tryd.sc_4 rfl) ?_; clear hf a; intro a hf
      refine o_end ?_
      refine sy_cond hf rfl (fun hg8 => ?_) (fun hg8 => ?_)
      ·have hG8 := hg8; try simp only [gS] at hG8
       refine sy_tail (C := Hp _ _ _) 18 Tryd.follows (by kernel_rfl) rfl rfl (hh.drawn _) ?_
       refine oq_v hf (yv_move rfl) ?_; clear hf a; intro a hf
       refine oq_v hf (yv_move rfl) ?_; clear hf a; intro a hf
       refine oq_v hf (yv_move rfl) ?_; clear hf a; intro a hf
       refine oq_v hf (yv_move rfl) ?_; clear hf a; intro a hf
       refine oq_v hf (y_ia Tryd.ae_82 rfl rfl) ?_; clear hf a; intro a hf
       refine oq_v hf (y_ia Tryd.ae_81 rfl rfl) ?_; clear hf a; intro a hf
       refine oq_v hf (y_ld Tryd.sc_3 rfl) ?_; clear hf a; intro a hf
       refine oq_v hf (yv_move rfl) ?_; clear hf a; intro a hf
       refine q_v hf (yv_cast (yv_add rfl rfl (by omega) (by omega)) (intv (b := ((i + 1 : Nat) : Int)) (by omega))) (.inl rfl) rfl rfl ?_; clear hf a; intro a hf
       refine oq_v hf (yv_move rfl) ?_; clear hf a; intro a hf
       refine q_v hf (yv_cast (yv_add rfl rfl (by omega) (by omega)) (intv (b := ((k + 1 : Nat) : Int)) (by omega))) (.inl rfl) rfl rfl ?_; clear hf a; intro a hf
       refine oq_v hf (y_ia Tryd.ae_82 rfl rfl) ?_; clear hf a; intro a hf
       refine oq_v hf (y_ia Tryd.ae_81 rfl rfl) ?_; clear hf a; intro a hf
       refine oq_v hf (y_ld Tryd.sc_3 rfl) ?_; clear hf a; intro a hf
       refine oq_v hf (y_add rfl rfl) ?_; clear hf a; intro a hf
       refine oq_v hf (yv_max rfl rfl) ?_; clear hf a; intro a hf
       refine oq_v hf (y_ia Tryd.ae_82 rfl rfl) ?_; clear hf a; intro a hf
       refine oq_v hf (y_ia Tryd.ae_81 rfl rfl) ?_; clear hf a; intro a hf
       refine q_end fun w hh => ?_
       refine o_store hf hh Tryd.sz_3 fun w hh => ?_
       refine ops_end ?_
       refine blk_n ?_
       refine then_n ?_
       refine sy_ops ?_
       refine o_v hf hh (yv_move rfl) ?_; clear hf a; intro a hf
       refine o_v hf hh (y_sub rfl rfl) ?_; clear hf a; intro a hf
       refine o_v hf hh (yv_assign rfl) ?_; clear hf a; intro a hf
       refine ops_end ?_
       refine then_n ?_
       first
         | exact ⟨k, ⟨⟨by omega, _, (hG4.set (i := i) (k := k) (by omega) (by omega) (by first | (simp; done) | (simp; omega)) _).congr (fun x y _ _ => by rw [updG_updG]; exact procM_step (by have hq : F i k = true := (by assumption); rw [if_pos hq] at hms; omega) x y), hh⟩, (hf.head (by repeat' (first | exact True.intro | refine And.intro rfl ?_)) (Keep.cons rfl (Keep.cons rfl (Keep.cons rfl (Keep.cons rfl (Keep.cons rfl (Keep.cons rfl (Keep.cons rfl (Keep.cons rfl (Keep.cons rfl (Keep.cons rfl (Keep.cons rfl (Keep.cons rfl (Keep.cons rfl (Keep.cons rfl (Keep.cons rfl (Keep.cons rfl (Keep.cons rfl (Keep.cons rfl (Keep.cons rfl (Keep.cons rfl (Keep.cons rfl (Keep.cons rfl (Keep.cons rfl (Keep.cons rfl (Keep.cons rfl (Keep.cons rfl (Keep.cons rfl (Keep.cons rfl (Keep.cons rfl (Keep.cons rfl (Keep.cons rfl (Keep.cons rfl (Keep.cons rfl (Keep.cons rfl (Keep.cons rfl (Keep.cons rfl (Keep.cons rfl (Keep.cons rfl (Keep.cons rfl (Keep.cons rfl (Keep.cons rfl (Keep.cons rfl (Keep.cons rfl (Keep.cons rfl (Keep.cons rfl (Keep.cons rfl (Keep.cons rfl (Keep.cons rfl (Keep.app rfl (Keep.rm rfl Keep.base)))))))))))))))))))))))))))))))))))))))))))))))))))⟩, by omega⟩
         | exact ⟨k, ⟨⟨by omega, _, hG4.congr (fun x y _ _ => procM_step (by have hq : F i k = false := (by assumption); rw [if_neg (by simp [hq])] at hms; omega) x y), hh⟩, (hf.head (by repeat' (first | exact True.intro | refine And.intro rfl ?_)) (Keep.cons rfl (Keep.cons rfl (Keep.cons rfl (Keep.cons rfl (Keep.cons rfl (Keep.cons rfl (Keep.cons rfl (Keep.cons rfl (Keep.cons rfl (Keep.cons rfl (Keep.cons rfl (Keep.cons rfl (Keep.cons rfl (Keep.cons rfl (Keep.cons rfl (Keep.cons rfl (Keep.cons rfl (Keep.cons rfl (Keep.cons rfl (Keep.cons rfl (Keep.cons rfl (Keep.cons rfl (Keep.cons rfl (Keep.cons rfl (Keep.cons rfl (Keep.cons rfl (Keep.cons rfl (Keep.cons rfl (Keep.cons rfl (Keep.cons rfl (Keep.cons rfl (Keep.cons rfl (Keep.cons rfl (Keep.cons rfl (Keep.cons rfl (Keep.cons rfl (Keep.cons rfl (Keep.cons rfl (Keep.cons rfl (Keep.cons rfl (Keep.cons rfl (Keep.cons rfl (Keep.cons rfl (Keep.cons rfl (Keep.cons rfl (Keep.cons rfl (Keep.cons rfl (Keep.cons rfl (Keep.app rfl (Keep.rm rfl Keep.base)))))))))))))))))))))))))))))))))))))))))))))))))))⟩, by omega⟩
      ·have hG8 := hg8; try simp only [gS] at hG8
       refine sy_skip ?_
       refine blk_n ?_
       refine then_n ?_
       refine sy_ops ?_
       refine o_v hf hh (yv_move rfl) ?_; clear hf a; intro a hf
       refine o_v hf hh (y_sub rfl rfl) ?_; clear hf a; intro a hf
       refine o_v hf hh (yv_assign rfl) ?_; clear hf a; intro a hf
       refine ops_end ?_
       refine then_n ?_
       first
         | exact ⟨k, ⟨⟨by omega, _, (hG4.set (i := i) (k := k) (by omega) (by omega) (by first | (simp; done) | (simp; omega)) _).congr (fun x y _ _ => by rw [updG_updG]; exact procM_step (by have hq : F i k = true := (by assumption); rw [if_pos hq] at hms; omega) x y), hh⟩, (hf.head (by repeat' (first | exact True.intro | refine And.intro rfl ?_)) (Keep.cons rfl (Keep.cons rfl (Keep.cons rfl (Keep.cons rfl (Keep.cons rfl (Keep.cons rfl (Keep.cons rfl (Keep.cons rfl (Keep.cons rfl (Keep.cons rfl (Keep.cons rfl (Keep.cons rfl (Keep.cons rfl (Keep.cons rfl (Keep.cons rfl (Keep.cons rfl (Keep.cons rfl (Keep.cons rfl (Keep.cons rfl (Keep.cons rfl (Keep.cons rfl (Keep.cons rfl (Keep.cons rfl (Keep.cons rfl (Keep.cons rfl (Keep.cons rfl (Keep.cons rfl (Keep.cons rfl (Keep.cons rfl (Keep.cons rfl (Keep.app rfl (Keep.rm rfl Keep.base)))))))))))))))))))))))))))))))))⟩, by omega⟩
         | exact ⟨k, ⟨⟨by omega, _, hG4.congr (fun x y _ _ => procM_step (by have hq : F i k = false := (by assumption); rw [if_neg (by simp [hq])] at hms; omega) x y), hh⟩, (hf.head (by repeat' (first | exact True.intro | refine And.intro rfl ?_)) (Keep.cons rfl (Keep.cons rfl (Keep.cons rfl (Keep.cons rfl (Keep.cons rfl (Keep.cons rfl (Keep.cons rfl (Keep.cons rfl (Keep.cons rfl (Keep.cons rfl (Keep.cons rfl (Keep.cons rfl (Keep.cons rfl (Keep.cons rfl (Keep.cons rfl (Keep.cons rfl (Keep.cons rfl (Keep.cons rfl (Keep.cons rfl (Keep.cons rfl (Keep.cons rfl (Keep.cons rfl (Keep.cons rfl (Keep.cons rfl (Keep.cons rfl (Keep.cons rfl (Keep.cons rfl (Keep.cons rfl (Keep.cons rfl (Keep.cons rfl (Keep.app rfl (Keep.rm rfl Keep.base)))))))))))))))))))))))))))))))))⟩, by omega⟩
     ·have hG4 := hg4; try simp only [gS] at hG4
      refine sy_exit ?_
      refine then_e ?_
      refine then_e ?_
      refine blk_e ?_
      refine blk_n ?_
      refine then_n ?_
      refine sy_ops ?_
      refine o_v hf hh (yv_move rfl) ?_; clear hf a; intro a hf
      refine o_v hf hh (y_sub rfl rfl) ?_; clear hf a; intro a hf
      refine o_v hf hh (yv_assign rfl) ?_; clear hf a; intro a hf
      refine ops_end ?_
      refine then_n ?_
      have ht0 : t = 0 := by omega
      subst ht0
      exact ⟨i, ⟨⟨by omega, cs2, hG2.congr (fun x y _ _ => procM_row x y), hh⟩, (hf.head (by repeat' (first | exact True.intro | refine And.intro rfl ?_)) (Keep.cons rfl (Keep.cons rfl (Keep.cons rfl (Keep.cons rfl (Keep.cons rfl (Keep.app rfl (Keep.rm rfl (Keep.cons rfl (Keep.cons rfl (Keep.cons rfl (Keep.cons rfl (Keep.cons rfl (Keep.cons rfl (Keep.cons rfl (Keep.cons rfl (Keep.cons rfl (Keep.cons rfl (Keep.app rfl (Keep.rm rfl Keep.base))))))))))))))))))))⟩, by omega⟩
   ·have hG2 := hg2; try simp only [gS] at hG2
    refine sy_exit ?_
    refine then_e ?_
    refine then_e ?_
    refine blk_e ?_
    refine then_n ?_
    refine sy_seq ?_
    have hs0 : s = 0 := by omega
    subst hs0
    replace hG := hG.congr (fun x y _ _ => procM_end x y)
    refine sy_ops ?_
    refine o_v hf hh (yv_loads (vs := cs.toList) Tryd.ag_82 rfl (fun w h => h.at (i := 0) rfl) (by rw [show 121 = cs.size from hG.size.symm]; exact cellsAt_all)) ?_; clear hf a; intro a hf
    refine o_store hf hh Tryd.sz_82 (hx := rfl) (hi := atI (i := 0) rfl) (hy := rfl) (hv := hG.size) (h1 := hG.one) (hl := by rw [hG.size]; rfl) fun w hh => ?_
    replace hh : Hp u [] [(B2, .cells cs 82)] w := by have e := spl_all (z := cs) (cs := cs) rfl; exact e ▸ hh
    refine o_end ?_
    refine sy_ret ?_
    refine ret_c (vs := [.agg cs.toList.toArray]) hf ?_ ?_
    · exact ⟨⟨B2, 0, _, _, _, rfl, hh.at (i := 0) rfl, .inr ⟨121, _, Tryd.ag_82, by rw [show 121 = cs.size from hG.size.symm]; exact cellsAt_all, rfl⟩⟩, True.intro⟩
    · exact ⟨congrArg Value.agg hG.eq, hh.ext⟩
theorem c88 (d : RowsD) (sa sb : Option Addr) (ca cb : Nat) (F : Nat → Nat → Bool) (rb : Nat) (u : World) (hO : RowO u rb d sa sb ca cb F) (hV : Valid d) : Calls Tryd.prog 88 #[ptr rb 0] u (Ret fun v w' => v = .bool (decide (need d ≤ mos F d.l.length d.r.length 0 0)) ∧ Ext [] u w') := by
  refine calls_of Tryd.func88 rfl rfl (fun a hf => ?_)
  have hh := Hp.init u []
  obtain ⟨rs, hb, hcs⟩ := hO.ex
  have hnc := hcs.need
  refine sy_sq ?_
  refine o_v hf hh (yv_assign rfl) ?_; clear hf a; intro a hf
  refine o_end ?_
  refine sy_seq ?_
  refine sy_quiet (C := Hp _ _ _) Tryd.follows (by kernel_rfl) (hh.drawn _) ?_
  refine oq_v hf (yv_move rfl) ?_; clear hf a; intro a hf
  refine oq_call hf Tryd.en_50 rfl rfl rfl (fun w hh => c50 d sa sb ca cb F rb _ (hO.ext hh.ext)) ?_; clear hf a; intro a hf
  refine oq_v hf (yv_idxA Tryd.ae_82 Tryd.ag_81 rfl rfl) ?_; clear hf a; intro a hf
  refine oq_v hf (yv_idxS Tryd.ae_81 Tryd.sc_3 rfl rfl (v := .int .i64 (mosG F d.l.length d.r.length 0 0)) (by rw [Array.getElem?_extract]; exact (gridV_grid 11 11 (mosG F d.l.length d.r.length)).get 0 0 (by omega) (by omega))) ?_; clear hf a; intro a hf
  refine oq_v hf (yv_move rfl) ?_; clear hf a; intro a hf
  refine oq_v hf (yv_nilCheck rfl) ?_; clear hf a; intro a hf
  refine oq_v hf (yv_fieldAddr Tryd.fo_73_2 rfl) ?_; clear hf a; intro a hf
  refine oq_v hf (y_ld Tryd.sc_3 rfl) ?_; clear hf a; intro a hf
  refine oq_v hf (yv_bin rfl rfl rfl) ?_; clear hf a; intro a hf
  refine oq_v hf (yv_assign rfl) ?_; clear hf a; intro a hf
  refine q_end fun w hh => ?_
  refine then_n ?_
  refine sy_ret ?_
  refine ret_r hf rfl rfl ?_
  exact ⟨congrArg Value.bool (by rw [decide_eq_decide]; unfold need mosG; omega), hh.ext⟩
end Go.Proofs.YtemmhdgaagaglaaDoor
namespace Go.Proofs.YtemmhdgaagaglaaDoor
open Go Go.Sy Go.MatM
/-- Pairs that fit are pairs of marks. -/
def FB (d : RowsD) (F : Nat → Nat → Bool) : Prop := ∀ x y, F x y = true → x < d.l.length ∧ y < d.r.length
theorem fitD_FB (d : RowsD) : FB d (fitD d) := fun x y h => by
  unfold fitD at h
  split at h
  · rename_i a b h1 h2; exact ⟨len_of h1, len_of h2⟩
  · cases h
theorem c100 (i k p q B4 B5 : Nat) (w : World) (h4 : w.heap[B4]? = some (.cells #[.int .i64 i] 3 (0, 0))) (h5 : w.heap[B5]? = some (.cells #[.int .i64 k] 3 (0, 0))) :
    Calls Tryd.prog 100 #[.int .i64 p, .int .i64 q, ptr B4 0, ptr B5 0] w (Ret fun v w' => v = .bool (!okP i k p q) ∧ Ext [] w w') := by
  refine calls_of Tryd.func100 rfl rfl (fun a hf => ?_)
  have hh := Hp.init w []
  refine sy_sq ?_
  refine o_v hf hh (yv_assign rfl) ?_; clear hf a; intro a hf
  refine o_end ?_
  refine sy_sq ?_
  refine o_v hf hh (yv_move rfl) ?_; clear hf a; intro a hf
  refine o_v hf hh (y_ld Tryd.sc_3 rfl) ?_; clear hf a; intro a hf
  refine o_v hf hh (yv_bin rfl rfl rfl) ?_; clear hf a; intro a hf
  refine o_v hf hh (yv_move rfl) ?_; clear hf a; intro a hf
  refine o_v hf hh (y_ld Tryd.sc_3 rfl) ?_; clear hf a; intro a hf
  refine o_v hf hh (yv_bin rfl rfl rfl) ?_; clear hf a; intro a hf
  refine o_v hf hh (yv_neb Tryd.ub_4 rfl rfl) ?_; clear hf a; intro a hf
  refine o_v hf hh (yv_move rfl) ?_; clear hf a; intro a hf
  refine guard_split hf (t := 14) rfl (fun hg4 => ?_) (fun hg4 => ?_)
  ·have hG4 := hg4; try simp only [gS] at hG4
   refine o_off hf ?_; clear hf a; intro a hf
   refine o_off hf ?_; clear hf a; intro a hf
   refine o_off hf ?_; clear hf a; intro a hf
   refine o_off hf ?_; clear hf a; intro a hf
   refine o_off hf ?_; clear hf a; intro a hf
   refine o_off hf ?_; clear hf a; intro a hf
   refine o_off hf ?_; clear hf a; intro a hf
   refine o_v hf hh (y_pt rfl rfl) ?_; clear hf a; intro a hf
   refine o_v hf hh (yv_assign rfl) ?_; clear hf a; intro a hf
   refine o_end ?_
   refine sy_ret ?_
   refine ret_r hf rfl rfl ?_
   have hX := hh.ext
   refine ⟨congrArg Value.bool ?_, hX⟩
   clear hX hh hf
   unfold okP
   have d1 : decide ((p : Int) < i) = decide (p < i) := by rw [decide_eq_decide]; omega
   have d2 : decide ((q : Int) < k) = decide (q < k) := by rw [decide_eq_decide]; omega
   have d3 : decide ((p : Int) = i) = decide (p = i) := by rw [decide_eq_decide]; omega
   have d4 : decide ((q : Int) = k) = decide (q = k) := by rw [decide_eq_decide]; omega
   simp only [d1, d2, d3, d4] at *
   clear d1 d2 d3 d4
   generalize decide (p < i) = x1 at *
   generalize decide (q < k) = x2 at *
   generalize decide (p = i) = x3 at *
   generalize decide (q = k) = x4 at *
   cases x1 <;> cases x2 <;> cases x3 <;> cases x4 <;> simp_all
  ·have hG4 := hg4; try simp only [gS] at hG4
   refine o_v hf hh (yv_move rfl) ?_; clear hf a; intro a hf
   refine o_v hf hh (y_ld Tryd.sc_3 rfl) ?_; clear hf a; intro a hf
   refine o_v hf hh (yv_bin rfl rfl rfl) ?_; clear hf a; intro a hf
   refine o_v hf hh (yv_move rfl) ?_; clear hf a; intro a hf
   refine o_v hf hh (y_ld Tryd.sc_3 rfl) ?_; clear hf a; intro a hf
   refine o_v hf hh (yv_bin rfl rfl rfl) ?_; clear hf a; intro a hf
   refine o_v hf hh (yv_neb Tryd.ub_4 rfl rfl) ?_; clear hf a; intro a hf
   refine o_v hf hh (y_pf rfl rfl) ?_; clear hf a; intro a hf
   refine o_v hf hh (yv_assign rfl) ?_; clear hf a; intro a hf
   refine o_end ?_
   refine sy_ret ?_
   refine ret_r hf rfl rfl ?_
   have hX := hh.ext
   refine ⟨congrArg Value.bool ?_, hX⟩
   clear hX hh hf
   unfold okP
   have d1 : decide ((p : Int) < i) = decide (p < i) := by rw [decide_eq_decide]; omega
   have d2 : decide ((q : Int) < k) = decide (q < k) := by rw [decide_eq_decide]; omega
   have d3 : decide ((p : Int) = i) = decide (p = i) := by rw [decide_eq_decide]; omega
   have d4 : decide ((q : Int) = k) = decide (q = k) := by rw [decide_eq_decide]; omega
   simp only [d1, d2, d3, d4] at *
   clear d1 d2 d3 d4
   generalize decide (p < i) = x1 at *
   generalize decide (q < k) = x2 at *
   generalize decide (p = i) = x3 at *
   generalize decide (q = k) = x4 at *
   cases x1 <;> cases x2 <;> cases x3 <;> cases x4 <;> simp_all
theorem c94 (l r : Int) (p q B4 B5 : Nat) (w : World) (h4 : w.heap[B4]? = some (.cells #[.int .i64 l] 3 (0, 0))) (h5 : w.heap[B5]? = some (.cells #[.int .i64 r] 3 (0, 0))) :
    Calls Tryd.prog 94 #[.int .i64 p, .int .i64 q, ptr B4 0, ptr B5 0] w (Ret fun v w' => v = .bool (decide ((p : Int) = l) || decide ((q : Int) = r)) ∧ Ext [] w w') := by
  refine calls_of Tryd.func94 rfl rfl (fun a hf => ?_)
  have hh := Hp.init w []
  refine sy_sq ?_
  refine o_v hf hh (yv_assign rfl) ?_; clear hf a; intro a hf
  refine o_end ?_
  refine sy_sq ?_
  refine o_v hf hh (yv_move rfl) ?_; clear hf a; intro a hf
  refine o_v hf hh (y_ld Tryd.sc_3 rfl) ?_; clear hf a; intro a hf
  refine o_v hf hh (yv_bin rfl rfl rfl) ?_; clear hf a; intro a hf
  refine o_v hf hh (yv_move rfl) ?_; clear hf a; intro a hf
  refine guard_split hf (t := 10) rfl (fun hg2 => ?_) (fun hg2 => ?_)
  ·have hG2 := hg2; try simp only [gS] at hG2
   refine o_off hf ?_; clear hf a; intro a hf
   refine o_off hf ?_; clear hf a; intro a hf
   refine o_off hf ?_; clear hf a; intro a hf
   refine o_v hf hh (y_pt rfl rfl) ?_; clear hf a; intro a hf
   refine o_v hf hh (yv_assign rfl) ?_; clear hf a; intro a hf
   refine o_end ?_
   refine sy_ret ?_
   refine ret_r hf rfl rfl ?_
   have hX := hh.ext
   refine ⟨congrArg Value.bool ?_, hX⟩
   clear hX hh hf
   by_cases e1 : (p : Int) = l <;> by_cases e2 : (q : Int) = r <;> simp_all
  ·have hG2 := hg2; try simp only [gS] at hG2
   refine o_v hf hh (yv_move rfl) ?_; clear hf a; intro a hf
   refine o_v hf hh (y_ld Tryd.sc_3 rfl) ?_; clear hf a; intro a hf
   refine o_v hf hh (yv_bin rfl rfl rfl) ?_; clear hf a; intro a hf
   refine o_v hf hh (y_pf rfl rfl) ?_; clear hf a; intro a hf
   refine o_v hf hh (yv_assign rfl) ?_; clear hf a; intro a hf
   refine o_end ?_
   refine sy_ret ?_
   refine ret_r hf rfl rfl ?_
   have hX := hh.ext
   refine ⟨congrArg Value.bool ?_, hX⟩
   clear hX hh hf
   by_cases e1 : (p : Int) = l <;> by_cases e2 : (q : Int) = r <;> simp_all
theorem c90 (d : RowsD) (sa sb : Option Addr) (ca cb : Nat) (F : Nat → Nat → Bool) (rb : Nat) (u : World) (hO : RowO u rb d sa sb ca cb F) (hV : Valid d) (hF : FB d F) (i k : Nat) (hi : i < d.l.length) (hk : k < d.r.length) : Calls Tryd.prog 90 #[ptr rb 0, .int .i64 i, .int .i64 k] u (Ret fun v w' => v = .bool (canB F d.l.length d.r.length (need d) i k) ∧ Ext [] u w') := by
  refine calls_of Tryd.func90 rfl rfl (fun a hf => ?_)
  have hh := Hp.init u []
  obtain ⟨⟨rs, hb, hcs⟩, hnl, hnr⟩ := hO
  have c0 := hcs.l; have c1 := hcs.r
  have hft := hcs.fitA (i := i) (k := k) (by omega) (by omega)
  refine sy_sq ?_
  refine o_box hf hh ?_; clear hf hh a; intro B4 a w hf hh
  refine o_box hf hh ?_; clear hf hh a; intro B5 a w hf hh
  refine o_v hf hh (yv_assign rfl) ?_; clear hf a; intro a hf
  refine o_end ?_
  refine sy_sq ?_
  refine o_v hf hh (yv_makeFunc rfl rfl) ?_; clear hf a; intro a hf
  refine o_v hf hh (yv_assign rfl) ?_; clear hf a; intro a hf
  refine o_end ?_
  refine sy_sq ?_
  refine o_v hf hh (yv_move rfl) ?_; clear hf a; intro a hf
  refine o_v hf hh (yv_move rfl) ?_; clear hf a; intro a hf
  refine o_call hf Tryd.en_60 rfl rfl rfl (c60 d sa sb ca cb F rb 100 #[ptr B4 0, ptr B5 0] (fun x y => !okP i k x y) _ Tryd.en_100 ⟨⟨rs, hh.old hb, hcs⟩, hnl, hnr⟩ (fun p q w' _ _ e => c100 i k p q B4 B5 w' (e.get (hh.at (i := 1) rfl)) (e.get (hh.at (i := 0) rfl))) hF) ?_; clear hf a; intro v a w hR hf
  obtain ⟨Bo, cso, rfl, hRo, hx⟩ := hR; replace hh := hh.join hx; clear hx
  refine o_v hf hh (yv_assign rfl) ?_; clear hf a; intro a hf
  refine o_end ?_
  refine sy_seq ?_
  refine sy_quiet (C := Hp _ _ _) Tryd.follows (by kernel_rfl) (hh.drawn _) ?_
  refine oq_v hf (yv_move rfl) ?_; clear hf a; intro a hf
  refine oq_v hf (y_ld Tryd.sc_3 rfl) ?_; clear hf a; intro a hf
  refine oq_v hf (y_ld Tryd.sc_3 rfl) ?_; clear hf a; intro a hf
  refine oq_v hf (yv_nilCheck rfl) ?_; clear hf a; intro a hf
  refine oq_v hf (yv_fieldAddr Tryd.fo_73_1 rfl) ?_; clear hf a; intro a hf
  refine oq_v hf (y_ia Tryd.ae_71 rfl rfl) ?_; clear hf a; intro a hf
  refine oq_v hf (y_ia Tryd.ae_70 rfl rfl) ?_; clear hf a; intro a hf
  refine oq_v hf (y_ld Tryd.sc_4 rfl) ?_; clear hf a; intro a hf
  refine oq_v hf (yv_move rfl) ?_; clear hf a; intro a hf
  refine guard_splitq hf (t := 21) rfl (fun hg3 => ?_) (fun hg3 => ?_)
  ·have hG3 := hg3; try simp only [gS] at hG3
   refine oq_v hf (yv_move rfl) ?_; clear hf a; intro a hf
   refine oq_call hf Tryd.en_88 rfl rfl rfl (fun w hh => c88 d sa sb ca cb (fun x y => F x y && !!okP i k x y) Bo _ ⟨⟨_, hh.at (i := 0) rfl, hRo⟩, hnl, hnr⟩ hV) ?_; clear hf a; intro a hf
   refine oq_v hf (y_pt rfl rfl) ?_; clear hf a; intro a hf
   refine oq_v hf (yv_assign rfl) ?_; clear hf a; intro a hf
   refine q_end fun w hh => ?_
   refine then_n ?_
   refine sy_ret ?_
   refine ret_r hf rfl rfl ?_
   have hX := hh.ext
   refine ⟨congrArg Value.bool ?_, hX⟩
   clear hX hh hf
   unfold canB
   simp only [Bool.not_not] at *
   cases e : F i k <;> simp_all
  ·have hG3 := hg3; try simp only [gS] at hG3
   refine oq_off hf ?_; clear hf a; intro a hf
   refine oq_off hf ?_; clear hf a; intro a hf
   refine oq_v hf (y_pf rfl rfl) ?_; clear hf a; intro a hf
   refine oq_v hf (yv_assign rfl) ?_; clear hf a; intro a hf
   refine q_end fun w hh => ?_
   refine then_n ?_
   refine sy_ret ?_
   refine ret_r hf rfl rfl ?_
   have hX := hh.ext
   refine ⟨congrArg Value.bool ?_, hX⟩
   clear hX hh hf
   unfold canB
   simp only [Bool.not_not] at *
   cases e : F i k <;> simp_all
def un2 (x y j : Nat) : Nat := if j = 0 then 0 else if j = 1 then x else x ||| y
theorem c70 (x y bs : Nat) (hx : x < 1048576) (hy : y < 1048576) (u : World) (hb : u.heap[bs]? = some (.cells #[.int .i64 x, .int .i64 y] 92 (0, 0))) : Calls Tryd.prog 70 #[.slice (some ⟨bs, 0, none⟩) 2 2] u (Ret fun v w' => v = .int .i64 (x ||| y : Nat) ∧ Ext [] u w') := by
  refine calls_of Tryd.func70 rfl rfl (fun a hf => ?_)
  have hh := Hp.init u []
  have hel : ∀ j : Nat, j < 2 → ∃ z : Nat, (#[Value.int .i64 x, Value.int .i64 y] : Array Value)[0 + ((j : Nat) : Int).toNat * 1]? = some (.int .i64 z) ∧ z < 1048576 ∧ un2 x y (j + 1) = un2 x y j ||| z := fun j hj => by
    match j, hj with
    | 0, _ => exact ⟨x, rfl, hx, by simp [un2]⟩
    | 1, _ => exact ⟨y, rfl, hy, rfl⟩
  have hul : ∀ j, un2 x y j < 1048576 := fun j => by
    unfold un2
    have h3 := Nat.or_lt_two_pow (n := 20) hx hy
    split
    · omega
    · split <;> omega
  refine sy_sq ?_
  refine o_v hf hh (yv_assign rfl) ?_; clear hf a; intro a hf
  refine o_end ?_
  refine sy_seq ?_
  refine sy_sq ?_
  refine o_v hf hh (yv_move rfl) ?_; clear hf a; intro a hf
  refine o_v hf hh (yv_len Tryd.se_131 rfl) ?_; clear hf a; intro a hf
  refine o_v hf hh (yv_move rfl) ?_; clear hf a; intro a hf
  refine o_end ?_
  refine sy_block ?_
  refine sy_loopF (σ := Nat) [2, 4, 7, 8, 9, 10, 11, 12, 13, 14] (fun j => [(2, .int .i64 (un2 x y j : Nat)), (7, .int .i64 j)]) (fun j => j ≤ 2) (fun j => 2 - j) (0) hf hh ?_ ?_ ?_
  · repeat' (first | exact True.intro | refine And.intro rfl ?_)
  · first | exact True.intro | omega | (simp; omega) | simp
  ·rintro j a w hpr hf hh
   refine sy_sq ?_
   refine o_v hf hh (yv_bin rfl rfl rfl) ?_; clear hf a; intro a hf
   refine o_end ?_
   refine sy_seq ?_
   refine sy_cond hf rfl (fun hg2 => ?_) (fun hg2 => ?_)
   ·have hG2 := hg2; try simp only [gS] at hG2
    refine sy_skip ?_
    refine then_n ?_
    refine sy_seq ?_
    refine sy_block ?_
    refine sy_seq ?_
    obtain ⟨z, hz, hzl, hu⟩ := hel j (by omega)
    have hu2 := hul j
    refine sy_ops ?_
    refine o_v hf hh (y_ix Tryd.se_131 rfl rfl) ?_; clear hf a; intro a hf
    refine o_v hf hh (y_ld Tryd.sc_92 rfl) ?_; clear hf a; intro a hf
    refine o_v hf hh (yv_assign rfl) ?_; clear hf a; intro a hf
    refine o_end ?_
    refine sy_ops ?_
    refine o_v hf hh (yv_move rfl) ?_; clear hf a; intro a hf
    refine o_v hf hh (yv_move rfl) ?_; clear hf a; intro a hf
    refine ops_v hf hh (yv_cast (yv_or (.inl rfl) rfl rfl (by omega) (by simp only [IntKind.top]; omega) (by omega) (by simp only [IntKind.top]; omega)) (intv (b := ((un2 x y (j + 1) : Nat) : Int)) (by rw [Int.toNat_natCast, Int.toNat_natCast, hu]))) (.inl rfl) rfl rfl rfl ?_; clear hf a; intro a hf
    refine o_v hf hh (yv_assign rfl) ?_; clear hf a; intro a hf
    refine ops_end ?_
    refine blk_n ?_
    refine then_n ?_
    refine sy_ops ?_
    refine o_v hf hh (y_add rfl rfl) ?_; clear hf a; intro a hf
    refine o_v hf hh (yv_move rfl) ?_; clear hf a; intro a hf
    refine ops_end ?_
    refine then_n ?_
    exact ⟨j + 1, ⟨by omega, (hf.head (by repeat' (first | exact True.intro | refine And.intro rfl ?_)) (Keep.cons rfl (Keep.cons rfl (Keep.cons rfl (Keep.cons rfl (Keep.cons rfl (Keep.cons rfl (Keep.cons rfl (Keep.cons rfl (Keep.cons rfl (Keep.cons rfl (Keep.app rfl (Keep.rm rfl Keep.base))))))))))))), hh⟩, by omega⟩
   ·have hG2 := hg2; try simp only [gS] at hG2
    refine sy_exit ?_
    refine then_e ?_
    refine then_e ?_
    refine blk_e ?_
    refine then_n ?_
    refine sy_sq ?_
    refine o_v hf hh (yv_move rfl) ?_; clear hf a; intro a hf
    refine o_v hf hh (yv_assign rfl) ?_; clear hf a; intro a hf
    refine o_end ?_
    refine sy_ret ?_
    refine ret_r hf rfl rfl ?_
    have hj2 : j = 2 := by omega
    subst hj2
    exact ⟨rfl, hh.ext⟩
theorem c54 (d : RowsD) (sa sb : Option Addr) (ca cb : Nat) (F : Nat → Nat → Bool) (rb : Nat) (u : World) (hO : RowO u rb d sa sb ca cb F) (hV : Valid d) (hF : FB d F) (i : Nat) (hi : i < d.l.length) : Calls Tryd.prog 54 #[ptr rb 0, .int .i64 i] u (Ret fun v w' => v = .int .i64 (setF (fun y => canB F d.l.length d.r.length (need d) i y) d.r.length : Nat) ∧ Ext [] u w') := by
  refine calls_of Tryd.func54 rfl rfl (fun a hf => ?_)
  have hh := Hp.init u []
  obtain ⟨rs, hb, hcs⟩ := hO.ex
  have c0 := hcs.l; have c1 := hcs.r; have hnr := hO.nr
  refine sy_sq ?_
  refine o_v hf hh (yv_assign rfl) ?_; clear hf a; intro a hf
  refine o_end ?_
  refine sy_seq ?_
  refine sy_sq ?_
  refine o_v hf hh (yv_move rfl) ?_; clear hf a; intro a hf
  refine o_v hf hh (yv_nilCheck rfl) ?_; clear hf a; intro a hf
  refine o_v hf hh (yv_fieldAddr Tryd.fo_73_0 rfl) ?_; clear hf a; intro a hf
  refine o_v hf hh (yv_fieldAddr Tryd.fo_26_1 rfl) ?_; clear hf a; intro a hf
  refine o_v hf hh (y_ld Tryd.sc_22 rfl) ?_; clear hf a; intro a hf
  refine o_v hf hh (yv_len Tryd.se_22 rfl) ?_; clear hf a; intro a hf
  refine o_v hf hh (yv_move rfl) ?_; clear hf a; intro a hf
  refine o_end ?_
  refine sy_block ?_
  refine sy_loopF (σ := Nat) [4, 5, 12, 13, 14, 15, 16, 17, 18, 19, 20, 21, 22, 23, 24] (fun k => [(4, .int .i64 (setF (fun y => canB F d.l.length d.r.length (need d) i y) k : Nat)), (12, .int .i64 k)]) (fun k => k ≤ d.r.length) (fun k => d.r.length - k) (0) hf hh ?_ ?_ ?_
  · repeat' (first | exact True.intro | refine And.intro rfl ?_)
  · first | exact True.intro | omega | (simp; omega) | simp
  ·rintro k a w hpr hf hh
   refine sy_sq ?_
   refine o_v hf hh (yv_bin rfl rfl rfl) ?_; clear hf a; intro a hf
   refine o_end ?_
   refine sy_seq ?_
   refine sy_cond hf rfl (fun hg2 => ?_) (fun hg2 => ?_)
   ·have hG2 := hg2; try simp only [gS] at hG2
    refine sy_skip ?_
    refine then_n ?_
    refine sy_seq ?_
    refine sy_block ?_
    refine sy_sq ?_
    refine o_v hf hh (yv_move rfl) ?_; clear hf a; intro a hf
    refine o_v hf hh (yv_assign rfl) ?_; clear hf a; intro a hf
    refine o_end ?_
    refine sy_sq ?_
    refine o_v hf hh (yv_move rfl) ?_; clear hf a; intro a hf
    refine o_v hf hh (yv_move rfl) ?_; clear hf a; intro a hf
    refine o_v hf hh (yv_move rfl) ?_; clear hf a; intro a hf
    refine o_call hf Tryd.en_90 rfl rfl rfl (c90 d sa sb ca cb F rb _ (hO.ext hh.ext) hV hF i k hi (by omega)) ?_; clear hf a; intro v a w hR hf
    obtain ⟨rfl, hx⟩ := hR; replace hh := hh.more hx; clear hx
    refine o_end ?_
    refine sy_cond hf rfl (fun hg4 => ?_) (fun hg4 => ?_)
    ·have hG4 := hg4; try simp only [gS] at hG4
     have hsl := setF_lt (fun y => canB F d.l.length d.r.length (need d) i y) k
     have hp10 : 2 ^ k ≤ 2 ^ 10 := Nat.pow_le_pow_right (by omega) (by omega)
     refine sy_ops ?_
     refine o_v hf hh (yv_move rfl) ?_; clear hf a; intro a hf
     refine o_v hf hh (yv_move rfl) ?_; clear hf a; intro a hf
     refine ops_v hf hh (yv_cast (yv_shl1 (.inl rfl) rfl rfl (by omega) (by omega)) (intv (b := ((2 ^ k : Nat) : Int)) (by rw [Int.toNat_natCast]))) (.inl rfl) rfl rfl rfl ?_; clear hf a; intro a hf
     refine ops_buildSl hf hh Tryd.bl_131_2 rfl rfl (.inl rfl) rfl ?_; clear hf hh; clear a; intro B22 a w hf hh
     refine o_call hf Tryd.en_70 rfl rfl rfl (c70 (setF (fun y => canB F d.l.length d.r.length (need d) i y) k) (2 ^ k) B22 (by omega) (by omega) _ (hh.at (i := 0) rfl)) ?_; clear hf a; intro v a w hR hf
     obtain ⟨rfl, hx⟩ := hR; replace hh := hh.more hx; clear hx
     refine o_v hf hh (yv_assign rfl) ?_; clear hf a; intro a hf
     refine ops_end ?_
     refine blk_n ?_
     refine then_n ?_
     refine sy_ops ?_
     refine o_v hf hh (y_add rfl rfl) ?_; clear hf a; intro a hf
     refine o_v hf hh (yv_move rfl) ?_; clear hf a; intro a hf
     refine ops_end ?_
     refine then_n ?_
     have hst : setF (fun y => canB F d.l.length d.r.length (need d) i y) (k + 1) = if canB F d.l.length d.r.length (need d) i k = true then setF (fun y => canB F d.l.length d.r.length (need d) i y) k + 2 ^ k else setF (fun y => canB F d.l.length d.r.length (need d) i y) k := rfl
     first
       | (have hq : canB F d.l.length d.r.length (need d) i k = true := (by assumption)
          rw [if_pos hq, ← setF_or] at hst
          exact ⟨k + 1, ⟨by omega, hf.head ⟨congrArg (fun z : Nat => some (Value.int IntKind.i64 z)) hst.symm, rfl, True.intro⟩ (Keep.cons rfl (Keep.cons rfl (Keep.cons rfl (Keep.cons rfl (Keep.cons rfl (Keep.cons rfl (Keep.cons rfl (Keep.cons rfl (Keep.cons rfl (Keep.cons rfl (Keep.cons rfl (Keep.cons rfl (Keep.cons rfl (Keep.cons rfl (Keep.cons rfl (Keep.app rfl (Keep.rm rfl Keep.base))))))))))))))))), hh.less (List.nil_sublist _)⟩, by omega⟩)
       | (have hq : canB F d.l.length d.r.length (need d) i k = false := (by assumption)
          rw [if_neg (by simp [hq])] at hst
          exact ⟨k + 1, ⟨by omega, hf.head ⟨congrArg (fun z : Nat => some (Value.int IntKind.i64 z)) hst.symm, rfl, True.intro⟩ (Keep.cons rfl (Keep.cons rfl (Keep.cons rfl (Keep.cons rfl (Keep.cons rfl (Keep.cons rfl (Keep.cons rfl (Keep.cons rfl (Keep.cons rfl (Keep.cons rfl (Keep.cons rfl (Keep.cons rfl (Keep.cons rfl (Keep.cons rfl (Keep.cons rfl (Keep.app rfl (Keep.rm rfl Keep.base))))))))))))))))), hh.less (List.nil_sublist _)⟩, by omega⟩)
    ·have hG4 := hg4; try simp only [gS] at hG4
     refine sy_skip ?_
     refine blk_n ?_
     refine then_n ?_
     refine sy_ops ?_
     refine o_v hf hh (y_add rfl rfl) ?_; clear hf a; intro a hf
     refine o_v hf hh (yv_move rfl) ?_; clear hf a; intro a hf
     refine ops_end ?_
     refine then_n ?_
     have hst : setF (fun y => canB F d.l.length d.r.length (need d) i y) (k + 1) = if canB F d.l.length d.r.length (need d) i k = true then setF (fun y => canB F d.l.length d.r.length (need d) i y) k + 2 ^ k else setF (fun y => canB F d.l.length d.r.length (need d) i y) k := rfl
     first
       | (have hq : canB F d.l.length d.r.length (need d) i k = true := (by assumption)
          rw [if_pos hq, ← setF_or] at hst
          exact ⟨k + 1, ⟨by omega, hf.head ⟨congrArg (fun z : Nat => some (Value.int IntKind.i64 z)) hst.symm, rfl, True.intro⟩ (Keep.cons rfl (Keep.cons rfl (Keep.cons rfl (Keep.cons rfl (Keep.cons rfl (Keep.cons rfl (Keep.cons rfl (Keep.cons rfl (Keep.cons rfl (Keep.app rfl (Keep.rm rfl Keep.base))))))))))), hh.less (List.nil_sublist _)⟩, by omega⟩)
       | (have hq : canB F d.l.length d.r.length (need d) i k = false := (by assumption)
          rw [if_neg (by simp [hq])] at hst
          exact ⟨k + 1, ⟨by omega, hf.head ⟨congrArg (fun z : Nat => some (Value.int IntKind.i64 z)) hst.symm, rfl, True.intro⟩ (Keep.cons rfl (Keep.cons rfl (Keep.cons rfl (Keep.cons rfl (Keep.cons rfl (Keep.cons rfl (Keep.cons rfl (Keep.cons rfl (Keep.cons rfl (Keep.app rfl (Keep.rm rfl Keep.base))))))))))), hh.less (List.nil_sublist _)⟩, by omega⟩)
   ·have hG2 := hg2; try simp only [gS] at hG2
    refine sy_exit ?_
    refine then_e ?_
    refine then_e ?_
    refine blk_e ?_
    refine then_n ?_
    refine sy_sq ?_
    refine o_v hf hh (yv_move rfl) ?_; clear hf a; intro a hf
    refine o_v hf hh (yv_assign rfl) ?_; clear hf a; intro a hf
    refine o_end ?_
    refine sy_ret ?_
    refine ret_r hf rfl rfl ?_
    have hke : k = d.r.length := by omega
    subst hke
    exact ⟨rfl, hh.ext⟩
theorem c68 (d : RowsD) (sa sb : Option Addr) (ca cb : Nat) (F : Nat → Nat → Bool) (rb : Nat) (u : World) (hO : RowO u rb d sa sb ca cb F) (hV : Valid d) (hF : FB d F) (l r : Int) : Calls Tryd.prog 68 #[ptr rb 0, .int .i64 l, .int .i64 r] u (Ret fun v w' => v = .bool (hidB F d.l.length d.r.length (need d) l r) ∧ Ext [] u w') := by
  refine calls_of Tryd.func68 rfl rfl (fun a hf => ?_)
  have hh := Hp.init u []
  obtain ⟨⟨rs, hb, hcs⟩, hnl, hnr⟩ := hO
  refine sy_sq ?_
  refine o_box hf hh ?_; clear hf hh a; intro B4 a w hf hh
  refine o_box hf hh ?_; clear hf hh a; intro B5 a w hf hh
  refine o_v hf hh (yv_assign rfl) ?_; clear hf a; intro a hf
  refine o_end ?_
  refine sy_sq ?_
  refine o_v hf hh (yv_move rfl) ?_; clear hf a; intro a hf
  refine o_v hf hh (yv_makeFunc rfl rfl) ?_; clear hf a; intro a hf
  refine o_call hf Tryd.en_60 rfl rfl rfl (c60 d sa sb ca cb F rb 94 #[ptr B4 0, ptr B5 0] (fun x y => decide ((x : Int) = l) || decide ((y : Int) = r)) _ Tryd.en_94 ⟨⟨rs, hh.old hb, hcs⟩, hnl, hnr⟩ (fun p q w' _ _ e => c94 l r p q B4 B5 w' (e.get (hh.at (i := 1) rfl)) (e.get (hh.at (i := 0) rfl))) hF) ?_; clear hf a; intro v a w hR hf
  obtain ⟨Bo, cso, rfl, hRo, hx⟩ := hR; replace hh := hh.join hx; clear hx
  refine o_call hf Tryd.en_88 rfl rfl rfl (c88 d sa sb ca cb (fun x y => F x y && !(decide ((x : Int) = l) || decide ((y : Int) = r))) Bo _ ⟨⟨_, hh.at (i := 0) rfl, hRo⟩, hnl, hnr⟩ hV) ?_; clear hf a; intro v a w hR hf
  obtain ⟨rfl, hx⟩ := hR; replace hh := hh.more hx; clear hx
  refine o_v hf hh (yv_assign rfl) ?_; clear hf a; intro a hf
  refine o_end ?_
  refine sy_ret ?_
  refine ret_r hf rfl rfl ?_
  exact ⟨rfl, hh.ext⟩
end Go.Proofs.YtemmhdgaagaglaaDoor
namespace Go.Proofs.YtemmhdgaagaglaaDoor
open Go Go.Sy Go.MatM
theorem c93 (x : Nat) (hx : x < 65536) (w : World) : Calls Tryd.prog 93 #[.int .u64 x] w (Ret fun v w' => v = .int .i64 (pc x) ∧ Ext [] w w') := by
  refine calls_of Tryd.func93 rfl rfl (fun a hf => ?_)
  have hh := Hp.init w []
  have k1 := sw1_le x hx; have k2 := sw2_le x hx; have k3 := sw3_le x hx; have k4 := sw4_le x hx; have k5 := sw5_le x hx; have k6 := sw6_le x hx
  have n0 := @Nat.and_le_left (x / 2) 6148914691236517205
  have n1 := @Nat.and_le_left (x) 6148914691236517205
  have n2 := @Nat.and_le_left (sw1 x / 4) 3689348814741910323
  have n3 := @Nat.and_le_left (sw1 x) 3689348814741910323
  refine sy_sq ?_
  refine o_v hf hh (yv_assign rfl) ?_; clear hf a; intro a hf
  refine o_end ?_
  refine sy_sq ?_
  refine o_v hf hh (yv_move rfl) ?_; clear hf a; intro a hf
  refine ops_v hf hh (yv_cast (yv_shrx (.inr rfl) rfl rfl (by omega) (by omega) (by omega)) (intv (b := (((x) / 2 : Nat) : Int)) (by simp [Nat.shiftRight_eq_div_pow]))) (.inl rfl) rfl rfl rfl ?_; clear hf; clear a; intro a hf
  refine ops_v hf hh (yv_cast (yv_and (.inr rfl) rfl rfl (by omega) (by simp only [IntKind.top]; omega) (by omega) (by simp only [IntKind.top]; omega)) (intv (b := ((x / 2 &&& 6148914691236517205 : Nat) : Int)) rfl)) (.inl rfl) rfl rfl rfl ?_; clear hf; clear a; intro a hf
  refine o_v hf hh (yv_move rfl) ?_; clear hf a; intro a hf
  refine ops_v hf hh (yv_cast (yv_and (.inr rfl) rfl rfl (by omega) (by simp only [IntKind.top]; omega) (by omega) (by simp only [IntKind.top]; omega)) (intv (b := ((x &&& 6148914691236517205 : Nat) : Int)) rfl)) (.inl rfl) rfl rfl rfl ?_; clear hf; clear a; intro a hf
  first | refine o_v hf hh (yv_addx (.inr rfl) rfl rfl (by omega) (by simp only [IntKind.top]; omega)) ?_; clear hf a; intro a hf | refine o_v hf hh (yv_bin rfl rfl rfl) ?_; clear hf a; intro a hf
  refine ops_v hf hh (yv_cast (yv_assign rfl) (intv (b := ((sw1 x : Nat) : Int)) rfl)) (.inl rfl) rfl rfl rfl ?_; clear hf; clear a; intro a hf
  refine o_end ?_
  refine sy_sq ?_
  refine o_v hf hh (yv_move rfl) ?_; clear hf a; intro a hf
  refine ops_v hf hh (yv_cast (yv_shrx (.inr rfl) rfl rfl (by omega) (by omega) (by omega)) (intv (b := ((((sw1 x)) / 4 : Nat) : Int)) (by simp [Nat.shiftRight_eq_div_pow]))) (.inl rfl) rfl rfl rfl ?_; clear hf; clear a; intro a hf
  refine ops_v hf hh (yv_cast (yv_and (.inr rfl) rfl rfl (by omega) (by simp only [IntKind.top]; omega) (by omega) (by simp only [IntKind.top]; omega)) (intv (b := ((sw1 x / 4 &&& 3689348814741910323 : Nat) : Int)) rfl)) (.inl rfl) rfl rfl rfl ?_; clear hf; clear a; intro a hf
  refine o_v hf hh (yv_move rfl) ?_; clear hf a; intro a hf
  refine ops_v hf hh (yv_cast (yv_and (.inr rfl) rfl rfl (by omega) (by simp only [IntKind.top]; omega) (by omega) (by simp only [IntKind.top]; omega)) (intv (b := ((sw1 x &&& 3689348814741910323 : Nat) : Int)) rfl)) (.inl rfl) rfl rfl rfl ?_; clear hf; clear a; intro a hf
  first | refine o_v hf hh (yv_addx (.inr rfl) rfl rfl (by omega) (by simp only [IntKind.top]; omega)) ?_; clear hf a; intro a hf | refine o_v hf hh (yv_bin rfl rfl rfl) ?_; clear hf a; intro a hf
  refine ops_v hf hh (yv_cast (yv_assign rfl) (intv (b := ((sw2 (sw1 x) : Nat) : Int)) rfl)) (.inl rfl) rfl rfl rfl ?_; clear hf; clear a; intro a hf
  refine o_end ?_
  refine sy_sq ?_
  refine o_v hf hh (yv_move rfl) ?_; clear hf a; intro a hf
  refine ops_v hf hh (yv_cast (yv_shrx (.inr rfl) rfl rfl (by omega) (by omega) (by omega)) (intv (b := ((((sw2 (sw1 x))) / 16 : Nat) : Int)) (by simp [Nat.shiftRight_eq_div_pow]))) (.inl rfl) rfl rfl rfl ?_; clear hf; clear a; intro a hf
  refine o_v hf hh (yv_move rfl) ?_; clear hf a; intro a hf
  first | refine o_v hf hh (yv_addx (.inr rfl) rfl rfl (by omega) (by simp only [IntKind.top]; omega)) ?_; clear hf a; intro a hf | refine o_v hf hh (yv_bin rfl rfl rfl) ?_; clear hf a; intro a hf
  first | refine o_v hf hh (yv_and (.inr rfl) rfl rfl (by omega) (by simp only [IntKind.top]; omega) (by omega) (by simp only [IntKind.top]; omega)) ?_; clear hf a; intro a hf | refine o_v hf hh (yv_bin rfl rfl rfl) ?_; clear hf a; intro a hf
  refine ops_v hf hh (yv_cast (yv_assign rfl) (intv (b := ((sw3 (sw2 (sw1 x)) : Nat) : Int)) rfl)) (.inl rfl) rfl rfl rfl ?_; clear hf; clear a; intro a hf
  refine o_end ?_
  refine sy_sq ?_
  refine o_v hf hh (yv_move rfl) ?_; clear hf a; intro a hf
  refine o_v hf hh (yv_move rfl) ?_; clear hf a; intro a hf
  refine ops_v hf hh (yv_cast (yv_shrx (.inr rfl) rfl rfl (by omega) (by omega) (by omega)) (intv (b := ((((sw3 (sw2 (sw1 x)))) / 256 : Nat) : Int)) (by simp [Nat.shiftRight_eq_div_pow]))) (.inl rfl) rfl rfl rfl ?_; clear hf; clear a; intro a hf
  first | refine o_v hf hh (yv_addx (.inr rfl) rfl rfl (by omega) (by simp only [IntKind.top]; omega)) ?_; clear hf a; intro a hf | refine o_v hf hh (yv_bin rfl rfl rfl) ?_; clear hf a; intro a hf
  refine ops_v hf hh (yv_cast (yv_assign rfl) (intv (b := ((sw4 (sw3 (sw2 (sw1 x))) : Nat) : Int)) rfl)) (.inl rfl) rfl rfl rfl ?_; clear hf; clear a; intro a hf
  refine o_end ?_
  refine sy_sq ?_
  refine o_v hf hh (yv_move rfl) ?_; clear hf a; intro a hf
  refine o_v hf hh (yv_move rfl) ?_; clear hf a; intro a hf
  refine ops_v hf hh (yv_cast (yv_shrx (.inr rfl) rfl rfl (by omega) (by omega) (by omega)) (intv (b := ((((sw4 (sw3 (sw2 (sw1 x))))) / 65536 : Nat) : Int)) (by simp [Nat.shiftRight_eq_div_pow]))) (.inl rfl) rfl rfl rfl ?_; clear hf; clear a; intro a hf
  first | refine o_v hf hh (yv_addx (.inr rfl) rfl rfl (by omega) (by simp only [IntKind.top]; omega)) ?_; clear hf a; intro a hf | refine o_v hf hh (yv_bin rfl rfl rfl) ?_; clear hf a; intro a hf
  refine ops_v hf hh (yv_cast (yv_assign rfl) (intv (b := ((sw5 (sw4 (sw3 (sw2 (sw1 x)))) : Nat) : Int)) rfl)) (.inl rfl) rfl rfl rfl ?_; clear hf; clear a; intro a hf
  refine o_end ?_
  refine sy_sq ?_
  refine o_v hf hh (yv_move rfl) ?_; clear hf a; intro a hf
  refine o_v hf hh (yv_move rfl) ?_; clear hf a; intro a hf
  refine ops_v hf hh (yv_cast (yv_shrx (.inr rfl) rfl rfl (by omega) (by omega) (by omega)) (intv (b := ((((sw5 (sw4 (sw3 (sw2 (sw1 x)))))) / 4294967296 : Nat) : Int)) (by simp [Nat.shiftRight_eq_div_pow]))) (.inl rfl) rfl rfl rfl ?_; clear hf; clear a; intro a hf
  first | refine o_v hf hh (yv_addx (.inr rfl) rfl rfl (by omega) (by simp only [IntKind.top]; omega)) ?_; clear hf a; intro a hf | refine o_v hf hh (yv_bin rfl rfl rfl) ?_; clear hf a; intro a hf
  refine ops_v hf hh (yv_cast (yv_assign rfl) (intv (b := ((sw6 (sw5 (sw4 (sw3 (sw2 (sw1 x))))) : Nat) : Int)) rfl)) (.inl rfl) rfl rfl rfl ?_; clear hf; clear a; intro a hf
  refine o_end ?_
  refine sy_sq ?_
  refine o_v hf hh (yv_move rfl) ?_; clear hf a; intro a hf
  first | refine o_v hf hh (yv_convx (.inl rfl) (by kernel_rfl) Tryd.un_3 rfl (by omega) (by simp only [IntKind.top]; omega)) ?_; clear hf a; intro a hf | refine o_v hf hh (yv_conv (by kernel_rfl) Tryd.un_3 rfl) ?_; clear hf a; intro a hf
  first | refine o_v hf hh (yv_and (.inl rfl) rfl rfl (by omega) (by simp only [IntKind.top]; omega) (by omega) (by simp only [IntKind.top]; omega)) ?_; clear hf a; intro a hf | refine o_v hf hh (yv_bin rfl rfl rfl) ?_; clear hf a; intro a hf
  refine o_v hf hh (yv_assign rfl) ?_; clear hf a; intro a hf
  refine o_end ?_
  refine sy_ret ?_
  refine ret_r hf rfl rfl ?_
  refine ⟨?_, hh.ext⟩
  rw [← sw_pc hx]
  exact intv (by unfold sw; rfl)
theorem c67 (x : Nat) (hx : x < 65536) (w : World) : Calls Tryd.prog 67 #[.int .u64 x] w (Ret fun v w' => v = .int .i64 (pc x) ∧ Ext [] w w') := by
  refine calls_of Tryd.func67 rfl rfl (fun a hf => ?_)
  have hh := Hp.init w []
  refine sy_sq ?_
  refine o_v hf hh (yv_assign rfl) ?_; clear hf a; intro a hf
  refine o_end ?_
  refine sy_seq ?_
  refine c_f hf ?_
  refine sy_skip ?_
  refine then_n ?_
  refine sy_sq ?_
  refine o_v hf hh (yv_move rfl) ?_; clear hf a; intro a hf
  refine o_call hf Tryd.en_93 rfl rfl rfl (c93 x hx _) ?_; clear hf a; intro v a w hR hf
  obtain ⟨rfl, hx⟩ := hR; replace hh := hh.more hx; clear hx
  refine o_v hf hh (yv_assign rfl) ?_; clear hf a; intro a hf
  refine o_end ?_
  refine sy_ret ?_
  refine ret_r hf rfl rfl ?_
  exact ⟨rfl, hh.ext⟩
/-- The library's table for lowest bits lies in its variable. -/
def GTab (w : World) : Prop := ∃ c T fr, w.heap[1]? = some (.cells c T fr) ∧ ∀ j, j < 64 → c[j]? = some (.int .u8 (Lib.deBruijn64tab.getD j 0))
theorem GTab.ext {w w' : World} {M : List Nat} (h : GTab w) (e : Ext M w w') (hm : 1 ∉ M) : GTab w' :=
  let ⟨c, T, fr, h1, h2⟩ := h
  ⟨c, T, fr, e.getM h1 hm, h2⟩
theorem tz_idx (x : Nat) (hx : x < 65536) (hx0 : x ≠ 0) : (IntKind.u64.wrap (IntKind.u64.wrap ((BitVec.ofInt IntKind.u64.bits (x : Int) &&& BitVec.ofInt IntKind.u64.bits (IntKind.u64.wrap (0 - (x : Int)))).toNat : Int) * 285870213051353865)).fdiv (2 ^ (58 : Int).toNat) =
    ((2 ^ Lib.ctz 64 x * 285870213051353865 % 18446744073709551616 / 288230376151711744 : Nat) : Int) := by
  obtain ⟨hlow, _⟩ := Lib.lowest_bit 64 x hx0 (by omega)
  have h := tz64_key x _ (by omega) hx0 hlow
  rw [Int.zero_sub, Int.fdiv_eq_ediv_of_nonneg _ (Int.pow_nonneg (by omega))]
  exact h
theorem tz_all (x : Nat) (hx : x < 65536) (hx0 : x ≠ 0) (w : World) (hT : GTab w) : ∃ (n1 n2 n3 : Int) (idx : Nat) (c : Array Value) (T : TypeId) (fr : Nat × Nat),
    IntKind.u64.wrap (0 - (x : Int)) = n1 ∧ IntKind.u64.wrap ((BitVec.ofInt IntKind.u64.bits (x : Int) &&& BitVec.ofInt IntKind.u64.bits n1).toNat : Int) = n2 ∧ IntKind.u64.wrap (n2 * 285870213051353865) = n3 ∧
    n3.fdiv (2 ^ (58 : Int).toNat) = (idx : Int) ∧ idx < 64 ∧ w.heap[1]? = some (.cells c T fr) ∧ c[0 + idx * 1]? = some (.int .u8 (Lib.ctz 64 x)) ∧ Lib.ctz 64 x < 64 := by
  obtain ⟨c, T, fr, hb, hc⟩ := hT
  obtain ⟨_, hk⟩ := Lib.lowest_bit 64 x hx0 (by omega)
  obtain ⟨hi, htab⟩ := Lib.deBruijn64_at _ hk
  have hcc := hc _ hi
  rw [htab] at hcc
  exact ⟨_, _, _, _, c, T, fr, rfl, rfl, rfl, tz_idx x hx hx0, hi, hb, by rw [Nat.zero_add, Nat.mul_one]; exact hcc, hk⟩
theorem c96 (x : Nat) (hx : x < 65536) (hx0 : x ≠ 0) (w : World) (hT : GTab w) : Calls Tryd.prog 96 #[.int .u64 x] w (Ret fun v w' => v = .int .i64 (Lib.ctz 64 x) ∧ Ext [] w w') := by
  refine calls_of Tryd.func96 rfl rfl (fun a hf => ?_)
  have hh := Hp.init w []
  obtain ⟨n1, n2, n3, idx, c, T, fr, h1, h2, h3, hid, hi, hb, hcd, hk⟩ := tz_all x hx hx0 w hT
  refine sy_sq ?_
  refine o_v hf hh (yv_assign rfl) ?_; clear hf a; intro a hf
  refine o_end ?_
  refine sy_seq ?_
  refine sy_sq ?_
  refine o_v hf hh (yv_move rfl) ?_; clear hf a; intro a hf
  refine o_v hf hh (yv_bin rfl rfl rfl) ?_; clear hf a; intro a hf
  refine o_end ?_
  refine sy_cond hf rfl (fun hg2 => ?_) (fun hg2 => ?_)
  ·have hG2 := hg2; try simp only [gS] at hG2
   refine sy_sq ?_
   refine o_v hf hh (yv_assign rfl) ?_; clear hf a; intro a hf
   refine o_end ?_
   refine sy_ret ?_
   refine then_r ?_
   refine ret_r hf rfl rfl ?_
   first | exact ⟨rfl, hh.ext⟩ | (exfalso; omega)
  ·have hG2 := hg2; try simp only [gS] at hG2
   refine sy_skip ?_
   refine then_n ?_
   refine sy_sq ?_
   refine o_v hf hh (yv_move rfl) ?_; clear hf a; intro a hf
   refine o_v hf hh (yv_move rfl) ?_; clear hf a; intro a hf
   refine ops_v hf hh (yv_cast (yv_negw rfl) (intv h1)) (.inl rfl) rfl rfl rfl ?_; clear hf; clear a; intro a hf
   refine ops_v hf hh (yv_cast (yv_bin rfl rfl rfl) (intv h2)) (.inl rfl) rfl rfl rfl ?_; clear hf; clear a; intro a hf
   refine ops_v hf hh (yv_cast (yv_bin rfl rfl rfl) (intv h3)) (.inl rfl) rfl rfl rfl ?_; clear hf; clear a; intro a hf
   refine ops_v hf hh (yv_cast (yv_shr rfl rfl (by omega) (by simp only [IntKind.bits]; omega)) (intv hid)) (.inl rfl) rfl rfl rfl ?_; clear hf; clear a; intro a hf
   refine o_v hf hh (y_ia Tryd.ae_137 rfl rfl) ?_; clear hf a; intro a hf
   refine o_v hf hh (y_ld Tryd.sc_5 rfl) ?_; clear hf a; intro a hf
   first | refine o_v hf hh (yv_convx (.inl rfl) (by kernel_rfl) Tryd.un_3 rfl (by omega) (by simp only [IntKind.top]; omega)) ?_; clear hf a; intro a hf | refine o_v hf hh (yv_conv (by kernel_rfl) Tryd.un_3 rfl) ?_; clear hf a; intro a hf
   refine o_v hf hh (yv_assign rfl) ?_; clear hf a; intro a hf
   refine o_end ?_
   refine sy_ret ?_
   refine ret_r hf rfl rfl ?_
   first | exact ⟨rfl, hh.ext⟩ | (exfalso; omega)
theorem c69 (x : Nat) (hx : x < 65536) (hx0 : x ≠ 0) (w : World) (hT : GTab w) : Calls Tryd.prog 69 #[.int .u64 x] w (Ret fun v w' => v = .int .i64 (Lib.ctz 64 x) ∧ Ext [] w w') := by
  refine calls_of Tryd.func69 rfl rfl (fun a hf => ?_)
  have hh := Hp.init w []
  refine sy_sq ?_
  refine o_v hf hh (yv_assign rfl) ?_; clear hf a; intro a hf
  refine o_end ?_
  refine sy_seq ?_
  refine c_f hf ?_
  refine sy_skip ?_
  refine then_n ?_
  refine sy_sq ?_
  refine o_v hf hh (yv_move rfl) ?_; clear hf a; intro a hf
  refine o_call hf Tryd.en_96 rfl rfl rfl (c96 x hx hx0 _ (hT.ext hh.ext (by simp))) ?_; clear hf a; intro v a w hR hf
  obtain ⟨rfl, hx⟩ := hR; replace hh := hh.more hx; clear hx
  refine o_v hf hh (yv_assign rfl) ?_; clear hf a; intro a hf
  refine o_end ?_
  refine sy_ret ?_
  refine ret_r hf rfl rfl ?_
  exact ⟨rfl, hh.ext⟩
theorem c49 (d : RowsD) (sa sb : Option Addr) (ca cb : Nat) (u : World) (hA : MkAt u sa d.l) (hB : MkAt u sb d.r) (ok : Bool) : Calls Tryd.prog 49 #[rowsV d sa sb ca cb, .bool ok] u (Ret fun v w' => ∃ p e X, v = .tuple #[p, .int .i64 (e : Int)] ∧ ((e = 0 ∧ okRows d = true ∧ ok = true ∧ need d ≤ mos (fitD d) d.l.length d.r.length 0 0 ∧ ∃ B cs, p = ptr B 0 ∧ RowA d sa sb ca cb (fitD d) cs ∧ X = [(B, .cells cs 73)]) ∨ (e = 1 ∧ okRows d = false) ∨ (e = 2 ∧ okRows d = true ∧ ok = false) ∨ (e = 4 ∧ okRows d = true ∧ ok = true ∧ ¬ need d ≤ mos (fitD d) d.l.length d.r.length 0 0)) ∧ Hp u [] X w') := by
  refine calls_of Tryd.func49 rfl rfl (fun a hf => ?_)
  have hh := Hp.init u []
  refine sy_sq ?_
  refine o_box hf hh ?_; clear hf hh a; intro B2 a w hf hh
  refine o_v hf hh (yv_assign rfl) ?_; clear hf a; intro a hf
  refine o_v hf hh (yv_assign rfl) ?_; clear hf a; intro a hf
  refine o_end ?_
  refine sy_seq ?_
  refine sy_block ?_
  refine sy_sq ?_
  refine o_v hf hh (y_lds Tryd.ag_26 rfl) ?_; clear hf a; intro a hf
  refine o_call hf Tryd.en_42 rfl rfl rfl (c42 d sa sb ca cb _ (hA.ext hh.ext) (hB.ext hh.ext)) ?_; clear hf a; intro v a w hR hf
  obtain ⟨rfl, hx⟩ := hR; replace hh := hh.more hx; clear hx
  refine o_v hf hh (yv_not rfl) ?_; clear hf a; intro a hf
  refine o_v hf hh (yv_assign rfl) ?_; clear hf a; intro a hf
  refine o_end ?_
  refine sy_cond hf rfl (fun hg2 => ?_) (fun hg2 => ?_)
  ·have hG2 := hg2; try simp only [gS] at hG2
   refine sy_sq ?_
   refine o_v hf hh (yv_assign rfl) ?_; clear hf a; intro a hf
   refine o_v hf hh (yv_assign rfl) ?_; clear hf a; intro a hf
   refine o_end ?_
   refine sy_ret ?_
   refine blk_r ?_
   refine then_r ?_
   refine ret_r hf rfl rfl ?_
   exact ⟨_, 1, [], rfl, .inr (.inl ⟨rfl, by simp_all⟩), hh.less (List.nil_sublist _)⟩
  ·have hG2 := hg2; try simp only [gS] at hG2
   refine sy_sq ?_
   refine o_v hf hh (yv_move rfl) ?_; clear hf a; intro a hf
   refine o_v hf hh (yv_not rfl) ?_; clear hf a; intro a hf
   refine o_v hf hh (yv_assign rfl) ?_; clear hf a; intro a hf
   refine o_end ?_
   refine sy_cond hf rfl (fun hg4 => ?_) (fun hg4 => ?_)
   ·have hG4 := hg4; try simp only [gS] at hG4
    refine sy_sq ?_
    refine o_v hf hh (yv_assign rfl) ?_; clear hf a; intro a hf
    refine o_v hf hh (yv_assign rfl) ?_; clear hf a; intro a hf
    refine o_end ?_
    refine sy_ret ?_
    refine blk_r ?_
    refine then_r ?_
    refine ret_r hf rfl rfl ?_
    exact ⟨_, 2, [], rfl, .inr (.inr (.inl ⟨rfl, by simp_all, by simp_all⟩)), hh.less (List.nil_sublist _)⟩
   ·have hG4 := hg4; try simp only [gS] at hG4
    refine sy_skip ?_
    refine blk_n ?_
    refine then_n ?_
    refine sy_seq ?_
    have hV : Valid d := (okRows_iff d).1 (by simp_all)
    refine sy_ops ?_
    refine o_v hf hh (y_lds Tryd.ag_26 rfl) ?_; clear hf a; intro a hf
    refine o_call hf Tryd.en_44 rfl rfl rfl (c44 d sa sb ca cb _ (hA.ext hh.ext) (hB.ext hh.ext) hV) ?_; clear hf a; intro v a w hR hf
    obtain ⟨Bo, cso, rfl, hRo, hx⟩ := hR; replace hh := hh.join hx; clear hx
    refine o_v hf hh (yv_assign rfl) ?_; clear hf a; intro a hf
    refine o_end ?_
    refine sy_seq ?_
    refine sy_sq ?_
    refine o_v hf hh (yv_move rfl) ?_; clear hf a; intro a hf
    refine o_call hf Tryd.en_88 rfl rfl rfl (c88 d sa sb ca cb (fitD d) Bo _ ⟨⟨cso, hh.at (i := 0) rfl, hRo⟩, hV.nl, hV.nr⟩ hV) ?_; clear hf a; intro v a w hR hf
    obtain ⟨rfl, hx⟩ := hR; replace hh := hh.more hx; clear hx
    refine o_v hf hh (yv_not rfl) ?_; clear hf a; intro a hf
    refine o_end ?_
    refine sy_cond hf rfl (fun hg7 => ?_) (fun hg7 => ?_)
    ·have hG7 := hg7; try simp only [gS] at hG7
     refine sy_sq ?_
     refine o_v hf hh (yv_assign rfl) ?_; clear hf a; intro a hf
     refine o_v hf hh (yv_assign rfl) ?_; clear hf a; intro a hf
     refine o_end ?_
     refine sy_ret ?_
     refine then_r ?_
     refine ret_r hf rfl rfl ?_
     exact ⟨_, 4, [], rfl, .inr (.inr (.inr ⟨rfl, by simp_all, by simp_all, by simp_all⟩)), hh.less (List.nil_sublist _)⟩
    ·have hG7 := hg7; try simp only [gS] at hG7
     refine sy_skip ?_
     refine then_n ?_
     refine sy_sq ?_
     refine o_v hf hh (yv_move rfl) ?_; clear hf a; intro a hf
     refine o_v hf hh (yv_assign rfl) ?_; clear hf a; intro a hf
     refine o_v hf hh (yv_assign rfl) ?_; clear hf a; intro a hf
     refine o_end ?_
     refine sy_ret ?_
     refine ret_r hf rfl rfl ?_
     exact ⟨_, 0, _, rfl, .inl ⟨rfl, by simp_all, by simp_all, by simp_all, Bo, cso, rfl, hRo, rfl⟩, hh.less (.cons_cons _ (List.nil_sublist _))⟩
end Go.Proofs.YtemmhdgaagaglaaDoor
namespace Go.MatM
open Go Go.Sy Go.Proofs
/-- Is there a way? -/
def isD (d : RowsD) : Bool := decide (need d ≤ mos (fitD d) d.l.length d.r.length 0 0)
/-- The error of rows that are opened. -/
def opE (d : RowsD) (ok : Bool) : Int := if okRows d = false then 1 else if ok = false then 2 else if isD d = false then 4 else 0
theorem opE_zero {d : RowsD} {ok : Bool} : opE d ok = 0 ↔ okRows d = true ∧ ok = true ∧ isD d = true := by
  unfold opE
  cases okRows d <;> cases ok <;> cases isD d <;> simp
def inB (n : Int) (m : Nat) : Bool := decide (0 ≤ n) && decide (n ≤ (m : Int) - 1)
def fitsE (d : RowsD) (l r : Int) : Int := if okRows d = false then 1 else if (inB l d.l.length && inB r d.r.length) = false then 2 else 0
def fitsV (d : RowsD) (l r : Int) : Bool := decide (fitsE d l r = 0) && fitD d l.toNat r.toNat
def countV (d : RowsD) : Int := if okRows d then ((cnt (fitD d) d.l.length d.r.length 0 0 (need d) : Nat) : Int) else 0
def countE (d : RowsD) : Int := if okRows d then 0 else 1
/-- Which right marks a left one is a pair with in some way. -/
def canS (d : RowsD) (i : Nat) : Nat := setF (fun y => canB (fitD d) d.l.length d.r.length (need d) i y) d.r.length
def canL (d : RowsD) : List Int := (List.range d.l.length).map fun i => ((canS d i : Nat) : Int)
theorem canS_lt (d : RowsD) (i : Nat) : canS d i < 2 ^ d.r.length := setF_lt _ _
/-- Is a left mark, or a right one, hidden in some way? -/
def hidD (d : RowsD) (l r : Int) : Bool := hidB (fitD d) d.l.length d.r.length (need d) l r
def sureN (d : RowsD) (i : Nat) : Int := if pc (canS d i) = 1 ∧ hidD d i (-1) = false then ((Lib.ctz 64 (canS d i) : Nat) : Int) else -1
def sureL (d : RowsD) : List Int := (List.range d.l.length).map (sureN d)
def hideA (d : RowsD) : Nat := setF (fun i => hidD d i (-1)) d.l.length
def hideB (d : RowsD) : Nat := setF (fun k => hidD d (-1) k) d.r.length
abbrev ivs (l : List Int) : List Value := l.map (Value.int .i64)
theorem ivs_take {n i : Nat} {f : Nat → Int} (h : i < n) : ivs (((List.range n).map f).take (i + 1)) = ivs (((List.range n).map f).take i) ++ [.int .i64 (f i)] := by
  rw [List.take_add_one]
  simp [h]
/-- The shift of two marks. -/
def shiftD (d : RowsD) (i k : Nat) : Int × Int := match d.l[i]?, d.r[k]? with
  | some a, some b => (max (a.al - b.ah) d.lo, min (a.ah - b.al) d.hi)
  | _, _ => (0, 0)
theorem shiftD_eq {d : RowsD} {i k : Nat} {a b : Mk} (h1 : d.l[i]? = some a) (h2 : d.r[k]? = some b) : shiftD d i k = (max (a.al - b.ah) d.lo, min (a.ah - b.al) d.hi) := by simp [shiftD, h1, h2]
/-- The least and the greatest ends of some spans. -/
def endsF (p : Nat → Bool) (f : Nat → Int × Int) : Nat → Option (Int × Int)
  | 0 => none
  | n + 1 => if p n then match endsF p f n with
      | none => some (f n)
      | some e => some (min e.1 (f n).1, max e.2 (f n).2)
    else endsF p f n
def endsC : Option (Int × Int) → Array Value
  | none => #[.int .i64 0, .int .i64 0, .bool false]
  | some e => #[.int .i64 e.1, .int .i64 e.2, .bool true]
def endsA (o : Option (Int × Int)) (x : Int × Int) : Option (Int × Int) := match o with
  | none => some x
  | some e => some (min e.1 x.1, max e.2 x.2)
theorem endsF_step {p : Nat → Bool} {f : Nat → Int × Int} {n : Nat} : endsF p f (n + 1) = if p n then endsA (endsF p f n) (f n) else endsF p f n := by
  rw [endsF]; unfold endsA; cases endsF p f n <;> rfl
def shiftO (d : RowsD) (i : Nat) : Option (Int × Int) := endsF (fun k => (canS d i).testBit k) (shiftD d i) d.r.length
def leftOk (d : RowsD) (l : Int) : Bool := inB l d.l.length
def shiftE (d : RowsD) (l : Int) : Int := if opE d (leftOk d l) = 0 then (if (shiftO d l.toNat).isSome then 0 else 4) else opE d (leftOk d l)
def shiftV (d : RowsD) (l : Int) : Int × Int := if opE d (leftOk d l) = 0 then (shiftO d l.toNat).getD (0, 0) else (0, 0)
/-- Asking: how many ways are left, at worst. -/
def hidN (d : RowsD) (i : Nat) : Int := ((cnt (fun a b => fitD d a b && !decide (a = i)) d.l.length d.r.length 0 0 (need d) : Nat) : Int)
def eitN (d : RowsD) (i k : Nat) : Int := ((cnt (fun a b => fitD d a b && !(decide (a = i) && !decide (b = k))) d.l.length d.r.length 0 0 (need d) : Nat) : Int)
def worstN (d : RowsD) (i : Nat) : Nat → Int
  | 0 => hidN d i
  | k + 1 => max (worstN d i k) (eitN d i k - hidN d i)
def askN (d : RowsD) : Nat → Int × Int
  | 0 => (0, ((cnt (fitD d) d.l.length d.r.length 0 0 (need d) : Nat) : Int) + 1)
  | i + 1 => if worstN d i d.r.length < (askN d i).2 then ((i : Int), worstN d i d.r.length) else askN d i
def askE (d : RowsD) : Int := if opE d true = 0 then (if cnt (fitD d) d.l.length d.r.length 0 0 (need d) = 1 then 4 else 0) else opE d true
def askV (d : RowsD) : Int × Int := if askE d = 0 then askN d d.l.length else (0, 0)
/-- The way with the fewest hidden marks. -/
def mosD (d : RowsD) : Nat := mos (fitD d) d.l.length d.r.length 0 0
def fewL (d : RowsD) : List Pr := if opE d true = 0 then grd (fitD d) d.l.length d.r.length (mosD d) 0 0 else []
def fewH (d : RowsD) : Int := if opE d true = 0 then ((d.l.length + d.r.length : Nat) : Int) - 2 * (mosD d : Nat) else 0
end Go.MatM
namespace Go.Proofs.YtemmhdgaagaglaaDoor
open Go Go.Sy Go.MatM
theorem c49e (d : RowsD) (sa sb : Option Addr) (ca cb : Nat) (u : World) (hA : MkAt u sa d.l) (hB : MkAt u sb d.r) (ok : Bool) : Calls Tryd.prog 49 #[rowsV d sa sb ca cb, .bool ok] u (Ret fun v w' => ∃ p X, v = .tuple #[p, .int .i64 (opE d ok)] ∧ (opE d ok = 0 → ∃ B cs, p = ptr B 0 ∧ RowA d sa sb ca cb (fitD d) cs ∧ X = [(B, .cells cs 73)]) ∧ Hp u [] X w') :=
  Calls.ret_mono (c49 d sa sb ca cb u hA hB ok) fun v w' ⟨p, e, X, h1, h2, h3⟩ => by
    refine ⟨p, X, ?_, ?_, h3⟩
    · rw [h1]
      rcases h2 with ⟨rfl, a, b, c, _⟩ | ⟨rfl, a⟩ | ⟨rfl, a, b⟩ | ⟨rfl, a, b, c⟩
      · simp [opE, isD, a, b, c]
      · simp [opE, a]
      · simp [opE, a, b]
      · simp [opE, isD, a, b, c]
    · intro h
      obtain ⟨a, b, c⟩ := opE_zero.1 h
      rcases h2 with ⟨rfl, _, _, _, h4⟩ | ⟨rfl, a'⟩ | ⟨rfl, a', b'⟩ | ⟨rfl, a', b', c'⟩
      · exact h4
      · rw [a] at a'; cases a'
      · rw [b] at b'; cases b'
      · exact absurd (of_decide_eq_true c) c' 
theorem c15 (d : RowsD) (sa sb : Option Addr) (ca cb : Nat) (u : World) (hA : MkAt u sa d.l) (hB : MkAt u sb d.r) (l r : Int) (hl : -9223372036854775808 ≤ l ∧ l ≤ 9223372036854775807) (hr : -9223372036854775808 ≤ r ∧ r ≤ 9223372036854775807) : Calls Tryd.prog 15 #[rowsV d sa sb ca cb, .int .i64 l, .int .i64 r] u (Ret fun v w' => v = .tuple #[.bool (fitsV d l r), .int .i64 (fitsE d l r)] ∧ Ext [] u w') := by
  refine calls_of Tryd.func15 rfl rfl (fun a hf => ?_)
  have hh := Hp.init u []
  refine sy_sq ?_
  refine o_box hf hh ?_; clear hf hh a; intro B3 a w hf hh
  refine o_v hf hh (yv_assign rfl) ?_; clear hf a; intro a hf
  refine o_v hf hh (yv_assign rfl) ?_; clear hf a; intro a hf
  refine o_end ?_
  refine sy_seq ?_
  refine sy_block ?_
  refine sy_sq ?_
  refine o_v hf hh (y_lds Tryd.ag_26 rfl) ?_; clear hf a; intro a hf
  refine o_call hf Tryd.en_42 rfl rfl rfl (c42 d sa sb ca cb _ (hA.ext hh.ext) (hB.ext hh.ext)) ?_; clear hf a; intro v a w hR hf
  obtain ⟨rfl, hx⟩ := hR; replace hh := hh.more hx; clear hx
  refine o_v hf hh (yv_not rfl) ?_; clear hf a; intro a hf
  refine o_v hf hh (yv_assign rfl) ?_; clear hf a; intro a hf
  refine o_end ?_
  refine sy_cond hf rfl (fun hg2 => ?_) (fun hg2 => ?_)
  ·have hG2 := hg2; try simp only [gS] at hG2
   refine sy_sq ?_
   refine o_v hf hh (yv_assign rfl) ?_; clear hf a; intro a hf
   refine o_v hf hh (yv_assign rfl) ?_; clear hf a; intro a hf
   refine o_end ?_
   refine sy_ret ?_
   refine blk_r ?_
   refine then_r ?_
   refine ret_r hf rfl rfl ?_
   have hE : fitsE d l r = 1 := by unfold fitsE; rw [if_pos (by simp_all)]
   exact ⟨by simp [fitsV, hE, tup], hh.ext⟩
  ·have hG2 := hg2; try simp only [gS] at hG2
   refine sy_seq ?_
   have hok : okRows d = true := by simp_all
   have hV := (okRows_iff d).1 hok
   have hnl := hV.nl; have hnr := hV.nr
   refine sy_ops ?_
   refine o_v hf hh (yv_move rfl) ?_; clear hf a; intro a hf
   refine o_v hf hh (yv_fieldAddr Tryd.fo_26_0 rfl) ?_; clear hf a; intro a hf
   refine o_v hf hh (y_ld Tryd.sc_22 rfl) ?_; clear hf a; intro a hf
   refine o_v hf hh (yv_len Tryd.se_22 rfl) ?_; clear hf a; intro a hf
   refine o_v hf hh (y_sub rfl rfl) ?_; clear hf a; intro a hf
   refine o_call hf Tryd.en_43 rfl rfl rfl (c43 _ _ _ _) ?_; clear hf a; intro v a w hR hf
   obtain ⟨rfl, hx⟩ := hR; replace hh := hh.more hx; clear hx
   refine o_v hf hh (yv_not rfl) ?_; clear hf a; intro a hf
   refine o_v hf hh (yv_move rfl) ?_; clear hf a; intro a hf
   refine guard_split hf (t := 20) rfl (fun hg4 => ?_) (fun hg4 => ?_)
   ·have hG4 := hg4; try simp only [gS] at hG4
    refine o_off hf ?_; clear hf a; intro a hf
    refine o_off hf ?_; clear hf a; intro a hf
    refine o_off hf ?_; clear hf a; intro a hf
    refine o_off hf ?_; clear hf a; intro a hf
    refine o_off hf ?_; clear hf a; intro a hf
    refine o_off hf ?_; clear hf a; intro a hf
    refine o_off hf ?_; clear hf a; intro a hf
    refine o_v hf hh (y_pt rfl rfl) ?_; clear hf a; intro a hf
    refine o_v hf hh (yv_assign rfl) ?_; clear hf a; intro a hf
    refine o_end ?_
    refine c_t hf ?_
    refine sy_sq ?_
    refine o_v hf hh (yv_assign rfl) ?_; clear hf a; intro a hf
    refine o_v hf hh (yv_assign rfl) ?_; clear hf a; intro a hf
    refine o_end ?_
    refine sy_ret ?_
    refine blk_r ?_
    refine then_r ?_
    refine ret_r hf rfl rfl ?_
    first
      | (have hE : fitsE d l r = 2 := by unfold fitsE inB; rw [if_neg (by simp_all), if_pos (by first | (simp_all; done) | (simp_all; omega))]
         exact ⟨by simp [fitsV, hE, tup], hh.ext⟩)
      | exact ⟨by simp [fitsV, hE, tup], hh.ext⟩
   ·have hG4 := hg4; try simp only [gS] at hG4
    refine o_v hf hh (yv_move rfl) ?_; clear hf a; intro a hf
    refine o_v hf hh (yv_fieldAddr Tryd.fo_26_1 rfl) ?_; clear hf a; intro a hf
    refine o_v hf hh (y_ld Tryd.sc_22 rfl) ?_; clear hf a; intro a hf
    refine o_v hf hh (yv_len Tryd.se_22 rfl) ?_; clear hf a; intro a hf
    refine o_v hf hh (y_sub rfl rfl) ?_; clear hf a; intro a hf
    refine o_call hf Tryd.en_43 rfl rfl rfl (c43 _ _ _ _) ?_; clear hf a; intro v a w hR hf
    obtain ⟨rfl, hx⟩ := hR; replace hh := hh.more hx; clear hx
    refine o_v hf hh (yv_not rfl) ?_; clear hf a; intro a hf
    refine o_v hf hh (y_pf rfl rfl) ?_; clear hf a; intro a hf
    refine o_v hf hh (yv_assign rfl) ?_; clear hf a; intro a hf
    refine o_end ?_
    refine sy_cond hf rfl (fun hg6 => ?_) (fun hg6 => ?_)
    ·have hG6 := hg6; try simp only [gS] at hG6
     refine sy_sq ?_
     refine o_v hf hh (yv_assign rfl) ?_; clear hf a; intro a hf
     refine o_v hf hh (yv_assign rfl) ?_; clear hf a; intro a hf
     refine o_end ?_
     refine sy_ret ?_
     refine blk_r ?_
     refine then_r ?_
     refine ret_r hf rfl rfl ?_
     first
       | (have hE : fitsE d l r = 2 := by unfold fitsE inB; rw [if_neg (by simp_all), if_pos (by first | (simp_all; done) | (simp_all; omega))]
          exact ⟨by simp [fitsV, hE, tup], hh.ext⟩)
       | exact ⟨by simp [fitsV, hE, tup], hh.ext⟩
    ·have hG6 := hg6; try simp only [gS] at hG6
     refine sy_skip ?_
     refine blk_n ?_
     refine then_n ?_
     refine sy_seq ?_
     have hin : (inB l d.l.length && inB r d.r.length) = true := by unfold inB; simp_all
     have hE : fitsE d l r = 0 := by simp [fitsE, hok, hin]
     obtain ⟨x, y, rfl, rfl, hx, hy⟩ : ∃ x y : Nat, l = (x : Int) ∧ r = (y : Int) ∧ x < d.l.length ∧ y < d.r.length := by
       unfold inB at hin
       simp only [Bool.and_eq_true, decide_eq_true_eq] at hin
       exact ⟨l.toNat, r.toNat, by omega, by omega, by omega, by omega⟩
     refine sy_ops ?_
     refine o_v hf hh (y_lds Tryd.ag_26 rfl) ?_; clear hf a; intro a hf
     refine o_call hf Tryd.en_44 rfl rfl rfl (c44 d sa sb ca cb _ (hA.ext hh.ext) (hB.ext hh.ext) hV) ?_; clear hf a; intro v a w hR hf
     obtain ⟨Bo, cso, rfl, hRo, hx2⟩ := hR; replace hh := hh.join hx2; clear hx2
     have hft := hRo.fitA (i := x) (k := y) (by omega) (by omega)
     refine o_v hf hh (yv_move rfl) ?_; clear hf a; intro a hf
     refine o_v hf hh (yv_move rfl) ?_; clear hf a; intro a hf
     refine o_v hf hh (yv_nilCheck rfl) ?_; clear hf a; intro a hf
     refine o_v hf hh (yv_fieldAddr Tryd.fo_73_1 rfl) ?_; clear hf a; intro a hf
     refine o_v hf hh (y_ia Tryd.ae_71 rfl rfl) ?_; clear hf a; intro a hf
     refine o_v hf hh (y_ia Tryd.ae_70 rfl rfl) ?_; clear hf a; intro a hf
     refine o_v hf hh (y_ld Tryd.sc_4 rfl) ?_; clear hf a; intro a hf
     refine o_v hf hh (yv_assign rfl) ?_; clear hf a; intro a hf
     refine o_v hf hh (yv_assign rfl) ?_; clear hf a; intro a hf
     refine o_end ?_
     refine sy_ret ?_
     refine ret_r hf rfl rfl ?_
     first
       | (have hE : fitsE d l r = 2 := by unfold fitsE inB; rw [if_neg (by simp_all), if_pos (by first | (simp_all; done) | (simp_all; omega))]
          exact ⟨by simp [fitsV, hE, tup], hh.ext⟩)
       | exact ⟨by simp [fitsV, hE, tup], hh.ext⟩
theorem c17 (d : RowsD) (sa sb : Option Addr) (ca cb : Nat) (u : World) (hA : MkAt u sa d.l) (hB : MkAt u sb d.r) : Calls Tryd.prog 17 #[rowsV d sa sb ca cb] u (Ret fun v w' => v = .tuple #[.int .i64 (countV d), .int .i64 (countE d)] ∧ Ext [] u w') := by
  refine calls_of Tryd.func17 rfl rfl (fun a hf => ?_)
  have hh := Hp.init u []
  refine sy_sq ?_
  refine o_box hf hh ?_; clear hf hh a; intro B1 a w hf hh
  refine o_v hf hh (yv_assign rfl) ?_; clear hf a; intro a hf
  refine o_v hf hh (yv_assign rfl) ?_; clear hf a; intro a hf
  refine o_end ?_
  refine sy_seq ?_
  refine sy_sq ?_
  refine o_v hf hh (y_lds Tryd.ag_26 rfl) ?_; clear hf a; intro a hf
  refine o_call hf Tryd.en_42 rfl rfl rfl (c42 d sa sb ca cb _ (hA.ext hh.ext) (hB.ext hh.ext)) ?_; clear hf a; intro v a w hR hf
  obtain ⟨rfl, hx⟩ := hR; replace hh := hh.more hx; clear hx
  refine o_v hf hh (yv_not rfl) ?_; clear hf a; intro a hf
  refine o_end ?_
  refine sy_cond hf rfl (fun hg2 => ?_) (fun hg2 => ?_)
  ·have hG2 := hg2; try simp only [gS] at hG2
   refine sy_sq ?_
   refine o_v hf hh (yv_assign rfl) ?_; clear hf a; intro a hf
   refine o_v hf hh (yv_assign rfl) ?_; clear hf a; intro a hf
   refine o_end ?_
   refine sy_ret ?_
   refine then_r ?_
   refine ret_r hf rfl rfl ?_
   have hok : okRows d = false := by simp_all
   exact ⟨by simp [tup, countV, countE, hok], hh.ext⟩
  ·have hG2 := hg2; try simp only [gS] at hG2
   refine sy_skip ?_
   refine then_n ?_
   refine sy_seq ?_
   have hok : okRows d = true := by simp_all
   have hV := (okRows_iff d).1 hok
   refine sy_ops ?_
   refine o_v hf hh (y_lds Tryd.ag_26 rfl) ?_; clear hf a; intro a hf
   refine o_call hf Tryd.en_44 rfl rfl rfl (c44 d sa sb ca cb _ (hA.ext hh.ext) (hB.ext hh.ext) hV) ?_; clear hf a; intro v a w hR hf
   obtain ⟨Bo, cso, rfl, hRo, hx2⟩ := hR; replace hh := hh.join hx2; clear hx2
   refine o_call hf Tryd.en_47 rfl rfl rfl (c47 d sa sb ca cb (fitD d) Bo _ ⟨⟨cso, hh.at (i := 0) rfl, hRo⟩, hV.nl, hV.nr⟩ hV) ?_; clear hf a; intro v a w hR hf
   obtain ⟨rfl, hx⟩ := hR; replace hh := hh.more hx; clear hx
   refine o_v hf hh (yv_assign rfl) ?_; clear hf a; intro a hf
   refine o_v hf hh (yv_assign rfl) ?_; clear hf a; intro a hf
   refine o_end ?_
   refine sy_ret ?_
   refine ret_r hf rfl rfl ?_
   exact ⟨by simp [tup, countV, countE, hok], hh.ext⟩
theorem c30 (d : RowsD) (sa sb : Option Addr) (ca cb : Nat) (u : World) (hA : MkAt u sa d.l) (hB : MkAt u sb d.r) : Calls Tryd.prog 30 #[rowsV d sa sb ca cb] u (Ret fun v w' => ∃ s X, v = .tuple #[s, .int .i64 (opE d true)] ∧ OwnSl 3 1 s (if opE d true = 0 then canL d else []).length (ivs (if opE d true = 0 then canL d else [])) X ∧ Hp u [] X w') := by
  refine calls_of Tryd.func30 rfl rfl (fun a hf => ?_)
  have hh := Hp.init u []
  refine sy_sq ?_
  refine o_box hf hh ?_; clear hf hh a; intro B1 a w hf hh
  refine o_v hf hh (yv_assign rfl) ?_; clear hf a; intro a hf
  refine o_v hf hh (yv_assign rfl) ?_; clear hf a; intro a hf
  refine o_end ?_
  refine sy_sq ?_
  refine o_v hf hh (y_lds Tryd.ag_26 rfl) ?_; clear hf a; intro a hf
  refine o_call hf Tryd.en_49 rfl rfl rfl (c49e d sa sb ca cb _ (hA.ext hh.ext) (hB.ext hh.ext) true) ?_; clear hf a; intro v a w hR hf
  obtain ⟨p, Xp, rfl, hp0, hx⟩ := hR; replace hh := hh.join hx; clear hx
  refine o_v hf hh (yv_move rfl) ?_; clear hf a; intro a hf
  refine o_v hf hh (yv_extract rfl rfl) ?_; clear hf a; intro a hf
  refine o_v hf hh (yv_extract rfl rfl) ?_; clear hf a; intro a hf
  refine o_v hf hh (yv_assign rfl) ?_; clear hf a; intro a hf
  refine o_v hf hh (yv_assign rfl) ?_; clear hf a; intro a hf
  refine o_end ?_
  refine sy_seq ?_
  refine sy_sq ?_
  refine o_v hf hh (yv_move rfl) ?_; clear hf a; intro a hf
  refine o_v hf hh (yv_bin rfl rfl rfl) ?_; clear hf a; intro a hf
  refine o_end ?_
  refine sy_cond hf rfl (fun hg5 => ?_) (fun hg5 => ?_)
  ·have hG5 := hg5; try simp only [gS] at hG5
   refine sy_sq ?_
   refine o_v hf hh (yv_move rfl) ?_; clear hf a; intro a hf
   refine o_v hf hh (yv_assign rfl) ?_; clear hf a; intro a hf
   refine o_v hf hh (yv_assign rfl) ?_; clear hf a; intro a hf
   refine o_end ?_
   refine sy_ret ?_
   refine then_r ?_
   refine ret_r hf rfl rfl ?_
   have hne : ¬ opE d true = 0 := by simp_all
   exact ⟨_, [], rfl, by rw [if_neg hne]; exact OwnSl.nil _ _, hh.less (List.nil_sublist _)⟩
  ·have hG5 := hg5; try simp only [gS] at hG5
   refine sy_skip ?_
   refine then_n ?_
   refine sy_seq ?_
   have hop : opE d true = 0 := by simp_all
   obtain ⟨Bo, cso, rfl, hRo, rfl⟩ := hp0 hop
   obtain ⟨hok, _, his⟩ := opE_zero.1 hop
   have hV := (okRows_iff d).1 hok
   have hnl := hV.nl; have hnr := hV.nr
   clear hp0
   refine sy_ops ?_
   refine o_v hf hh (yv_move rfl) ?_; clear hf a; intro a hf
   refine o_v hf hh (yv_makeFunc rfl rfl) ?_; clear hf a; intro a hf
   refine o_v hf hh (yv_assign rfl) ?_; clear hf a; intro a hf
   refine o_end ?_
   refine sy_seq ?_
   refine sy_sq ?_
   refine o_v hf hh (yv_fieldAddr Tryd.fo_26_0 rfl) ?_; clear hf a; intro a hf
   refine o_v hf hh (y_ld Tryd.sc_22 rfl) ?_; clear hf a; intro a hf
   refine o_v hf hh (yv_len Tryd.se_22 rfl) ?_; clear hf a; intro a hf
   refine o_v hf hh (yv_move rfl) ?_; clear hf a; intro a hf
   refine o_end ?_
   refine sy_block ?_
   refine sy_loopH (σ := Nat × Value × List (Nat × Obj)) [2, 6, 20, 21, 22, 23, 24, 25, 26, 27, 28, 29] (fun q => [(2, q.2.1), (20, .int .i64 (q.1 : Nat))]) (fun q => fun w => q.1 ≤ d.l.length ∧ OwnSl 3 1 q.2.1 q.1 (ivs ((canL d).take q.1)) q.2.2 ∧ Hp u [] (q.2.2 ++ [(Bo, .cells cso 73), (B1, .cells (rowsV d sa sb ca cb).cells 26)]) w) (fun q => d.l.length - q.1) ((0, .slice none 0 0, [])) hf ?_ ?_ ?_
   · exact ⟨rfl, rfl, True.intro⟩
   · exact ⟨Nat.zero_le _, OwnSl.nil _ _, hh⟩
   ·rintro q a w ⟨hi, hown, hh⟩ hf
    obtain ⟨i, v2, X2⟩ := q; simp only at hi hown hh hf ⊢
    have hzz := hh.get (B1, .cells (rowsV d sa sb ca cb).cells 26) (by simp)
    refine sy_sq ?_
    refine o_v hf hh (yv_bin rfl rfl rfl) ?_; clear hf a; intro a hf
    refine o_end ?_
    refine sy_seq ?_
    refine sy_cond hf rfl (fun hg7 => ?_) (fun hg7 => ?_)
    ·have hG7 := hg7; try simp only [gS] at hG7
     refine sy_skip ?_
     refine then_n ?_
     refine sy_seq ?_
     refine sy_block ?_
     refine sy_sq ?_
     refine o_v hf hh (yv_move rfl) ?_; clear hf a; intro a hf
     refine o_v hf hh (yv_assign rfl) ?_; clear hf a; intro a hf
     refine o_end ?_
     refine sy_ops ?_
     refine o_v hf hh (yv_move rfl) ?_; clear hf a; intro a hf
     refine o_v hf hh (yv_move rfl) ?_; clear hf a; intro a hf
     refine o_v hf hh (yv_move rfl) ?_; clear hf a; intro a hf
     refine o_call hf Tryd.en_54 rfl rfl rfl (c54 d sa sb ca cb (fitD d) Bo _ ⟨⟨cso, hh.get (Bo, .cells cso 73) (by simp), hRo⟩, hnl, hnr⟩ hV (fitD_FB d) i (by omega)) ?_; clear hf a; intro v a w hR hf
     obtain ⟨rfl, hx⟩ := hR; replace hh := hh.more hx; clear hx
     refine ops_buildSl hf hh Tryd.bl_55_1 rfl rfl (.inl rfl) rfl ?_; clear hf hh; clear a; intro B27 a w hf hh
     have hown3t : ivs ((canL d).take (i + 1)) = ivs ((canL d).take i) ++ [.int .i64 (((canS d i : Nat) : Int))] := ivs_take (by omega)
     refine ops_append (e := 3) (size := 1) (xs := ivs ((canL d).take i)) (Z := [(Bo, .cells cso 73), (B1, .cells (rowsV d sa sb ca cb).cells 26)]) hf hh Tryd.eb_55 rfl rfl hown rfl rfl rfl (by simp only [maxLen]; omega) (by omega) (.inl rfl) rfl ?_; clear hf hh; clear a w; intro v3 X3 a w hown3 hf hh
     refine o_v hf hh (yv_assign rfl) ?_; clear hf a; intro a hf
     refine ops_end ?_
     refine blk_n ?_
     refine then_n ?_
     refine sy_ops ?_
     refine o_v hf hh (y_add rfl rfl) ?_; clear hf a; intro a hf
     refine o_v hf hh (yv_move rfl) ?_; clear hf a; intro a hf
     refine ops_end ?_
     refine then_n ?_
     exact ⟨(i + 1, v3, X3), ⟨⟨by simp only; omega, by simp only [hown3t]; exact hown3, hh⟩, hf.head ⟨rfl, rfl, True.intro⟩ (Keep.cons rfl (Keep.cons rfl (Keep.cons rfl (Keep.cons rfl (Keep.cons rfl (Keep.cons rfl (Keep.cons rfl (Keep.cons rfl (Keep.cons rfl (Keep.cons rfl (Keep.cons rfl (Keep.cons rfl (Keep.app rfl (Keep.rm rfl Keep.base))))))))))))))⟩, by simp only; omega⟩
    ·have hG7 := hg7; try simp only [gS] at hG7
     refine sy_exit ?_
     refine then_e ?_
     refine then_e ?_
     refine blk_e ?_
     refine then_n ?_
     refine sy_sq ?_
     refine o_v hf hh (yv_move rfl) ?_; clear hf a; intro a hf
     refine o_v hf hh (yv_assign rfl) ?_; clear hf a; intro a hf
     refine o_v hf hh (yv_assign rfl) ?_; clear hf a; intro a hf
     refine o_end ?_
     refine sy_ret ?_
     refine ret_r hf rfl rfl ?_
     have hie : i = d.l.length := by omega
     have htk : (canL d).take i = canL d := List.take_of_length_le (by simp [canL, hie])
     rw [htk] at hown
     refine ⟨v2, X2, by rw [hop]; rfl, ?_, hh.less (List.sublist_append_left _ _)⟩
     rw [if_pos hop, show (canL d).length = i by simp [canL, hie]]; exact hown
end Go.Proofs.YtemmhdgaagaglaaDoor
namespace Go.Proofs.YtemmhdgaagaglaaDoor
open Go Go.Sy Go.MatM
theorem c32 (d : RowsD) (sa sb : Option Addr) (ca cb : Nat) (u : World) (hA : MkAt u sa d.l) (hB : MkAt u sb d.r) (hT : GTab u) : Calls Tryd.prog 32 #[rowsV d sa sb ca cb] u (Ret fun v w' => ∃ s X, v = .tuple #[s, .int .i64 (opE d true)] ∧ OwnSl 3 1 s (if opE d true = 0 then sureL d else []).length (ivs (if opE d true = 0 then sureL d else [])) X ∧ Hp u [] X w') := by
  refine calls_of Tryd.func32 rfl rfl (fun a hf => ?_)
  have hh := Hp.init u []
  refine sy_sq ?_
  refine o_box hf hh ?_; clear hf hh a; intro B1 a w hf hh
  refine o_v hf hh (yv_assign rfl) ?_; clear hf a; intro a hf
  refine o_v hf hh (yv_assign rfl) ?_; clear hf a; intro a hf
  refine o_end ?_
  refine sy_sq ?_
  refine o_v hf hh (y_lds Tryd.ag_26 rfl) ?_; clear hf a; intro a hf
  refine o_call hf Tryd.en_49 rfl rfl rfl (c49e d sa sb ca cb _ (hA.ext hh.ext) (hB.ext hh.ext) true) ?_; clear hf a; intro v a w hR hf
  obtain ⟨p, Xp, rfl, hp0, hx⟩ := hR; replace hh := hh.join hx; clear hx
  refine o_v hf hh (yv_move rfl) ?_; clear hf a; intro a hf
  refine o_v hf hh (yv_extract rfl rfl) ?_; clear hf a; intro a hf
  refine o_v hf hh (yv_extract rfl rfl) ?_; clear hf a; intro a hf
  refine o_v hf hh (yv_assign rfl) ?_; clear hf a; intro a hf
  refine o_v hf hh (yv_assign rfl) ?_; clear hf a; intro a hf
  refine o_end ?_
  refine sy_seq ?_
  refine sy_sq ?_
  refine o_v hf hh (yv_move rfl) ?_; clear hf a; intro a hf
  refine o_v hf hh (yv_bin rfl rfl rfl) ?_; clear hf a; intro a hf
  refine o_end ?_
  refine sy_cond hf rfl (fun hg5 => ?_) (fun hg5 => ?_)
  ·have hG5 := hg5; try simp only [gS] at hG5
   refine sy_sq ?_
   refine o_v hf hh (yv_move rfl) ?_; clear hf a; intro a hf
   refine o_v hf hh (yv_assign rfl) ?_; clear hf a; intro a hf
   refine o_v hf hh (yv_assign rfl) ?_; clear hf a; intro a hf
   refine o_end ?_
   refine sy_ret ?_
   refine then_r ?_
   refine ret_r hf rfl rfl ?_
   have hne : ¬ opE d true = 0 := by simp_all
   exact ⟨_, [], rfl, by rw [if_neg hne]; exact OwnSl.nil _ _, hh.less (List.nil_sublist _)⟩
  ·have hG5 := hg5; try simp only [gS] at hG5
   refine sy_skip ?_
   refine then_n ?_
   refine sy_seq ?_
   refine sy_seq ?_
   have hop : opE d true = 0 := by simp_all
   obtain ⟨Bo, cso, rfl, hRo, rfl⟩ := hp0 hop
   obtain ⟨hok, _, his⟩ := opE_zero.1 hop
   have hV := (okRows_iff d).1 hok
   have hnl := hV.nl; have hnr := hV.nr
   clear hp0
   refine sy_ops ?_
   refine o_v hf hh (yv_fieldAddr Tryd.fo_26_0 rfl) ?_; clear hf a; intro a hf
   refine o_v hf hh (y_ld Tryd.sc_22 rfl) ?_; clear hf a; intro a hf
   refine o_v hf hh (yv_len Tryd.se_22 rfl) ?_; clear hf a; intro a hf
   refine o_v hf hh (yv_move rfl) ?_; clear hf a; intro a hf
   refine o_end ?_
   refine sy_block ?_
   refine sy_loopH (σ := Nat × Value × List (Nat × Obj)) [2, 5, 6, 7, 19, 20, 21, 22, 23, 24, 25, 26, 27, 28, 29, 30, 31, 32, 33, 34, 35, 36, 37, 38, 39, 40, 41, 42] (fun q => [(2, q.2.1), (19, .int .i64 (q.1 : Nat))]) (fun q => fun w => q.1 ≤ d.l.length ∧ OwnSl 3 1 q.2.1 q.1 (ivs ((sureL d).take q.1)) q.2.2 ∧ Hp u [] (q.2.2 ++ [(Bo, .cells cso 73), (B1, .cells (rowsV d sa sb ca cb).cells 26)]) w) (fun q => d.l.length - q.1) ((0, .slice none 0 0, [])) hf ?_ ?_ ?_
   · exact ⟨rfl, rfl, True.intro⟩
   · exact ⟨Nat.zero_le _, OwnSl.nil _ _, hh⟩
   ·rintro q a w ⟨hi, hown, hh⟩ hf
    obtain ⟨i, v2, X2⟩ := q; simp only at hi hown hh hf ⊢
    have hzz := hh.get (B1, .cells (rowsV d sa sb ca cb).cells 26) (by simp)
    refine sy_sq ?_
    refine o_v hf hh (yv_bin rfl rfl rfl) ?_; clear hf a; intro a hf
    refine o_end ?_
    refine sy_seq ?_
    refine sy_cond hf rfl (fun hg7 => ?_) (fun hg7 => ?_)
    ·have hG7 := hg7; try simp only [gS] at hG7
     refine sy_skip ?_
     refine then_n ?_
     refine sy_seq ?_
     refine sy_block ?_
     refine sy_sq ?_
     refine o_v hf hh (yv_move rfl) ?_; clear hf a; intro a hf
     refine o_v hf hh (yv_assign rfl) ?_; clear hf a; intro a hf
     refine o_end ?_
     refine sy_sq ?_
     refine o_v hf hh (yv_move rfl) ?_; clear hf a; intro a hf
     refine o_v hf hh (yv_move rfl) ?_; clear hf a; intro a hf
     refine o_call hf Tryd.en_54 rfl rfl rfl (c54 d sa sb ca cb (fitD d) Bo _ ⟨⟨cso, hh.get (Bo, .cells cso 73) (by simp), hRo⟩, hnl, hnr⟩ hV (fitD_FB d) i (by omega)) ?_; clear hf a; intro v a w hR hf
     replace hR : v = .int .i64 ((canS d i : Nat) : Int) ∧ _ := hR
     obtain ⟨rfl, hx⟩ := hR; replace hh := hh.more hx; clear hx
     have hsl := canS_lt d i
     have hp10 : 2 ^ d.r.length ≤ 2 ^ 10 := Nat.pow_le_pow_right (by omega) (by omega)
     refine o_v hf hh (yv_assign rfl) ?_; clear hf a; intro a hf
     refine o_v hf hh (yv_assign rfl) ?_; clear hf a; intro a hf
     refine o_end ?_
     refine sy_seq ?_
     refine sy_sq ?_
     refine o_v hf hh (yv_move rfl) ?_; clear hf a; intro a hf
     first | refine o_v hf hh (yv_convx (.inr rfl) (by kernel_rfl) Tryd.un_104 rfl (by omega) (by simp only [IntKind.top]; omega)) ?_; clear hf a; intro a hf | refine o_v hf hh (yv_conv (by kernel_rfl) Tryd.un_104 rfl) ?_; clear hf a; intro a hf
     refine o_call hf Tryd.en_67 rfl rfl rfl (c67 (canS d i) (by omega) _) ?_; clear hf a; intro v a w hR hf
     obtain ⟨rfl, hx⟩ := hR; replace hh := hh.more hx; clear hx
     refine o_v hf hh (yv_bin rfl rfl rfl) ?_; clear hf a; intro a hf
     refine o_v hf hh (yv_move rfl) ?_; clear hf a; intro a hf
     refine guard_split hf (t := 29) rfl (fun hg11 => ?_) (fun hg11 => ?_)
     ·have hG11 := hg11; try simp only [gS] at hG11
      refine o_v hf hh (yv_move rfl) ?_; clear hf a; intro a hf
      refine o_v hf hh (yv_move rfl) ?_; clear hf a; intro a hf
      refine o_call hf Tryd.en_68 rfl rfl rfl (c68 d sa sb ca cb (fitD d) Bo _ ⟨⟨cso, hh.get (Bo, .cells cso 73) (by simp), hRo⟩, hnl, hnr⟩ hV (fitD_FB d) i (-1)) ?_; clear hf a; intro v a w hR hf
      replace hR : v = .bool (hidD d i (-1)) ∧ _ := hR
      obtain ⟨rfl, hx⟩ := hR; replace hh := hh.more hx; clear hx
      refine o_v hf hh (yv_not rfl) ?_; clear hf a; intro a hf
      refine o_v hf hh (y_pt rfl rfl) ?_; clear hf a; intro a hf
      refine o_end ?_
      refine sy_cond hf rfl (fun hg13 => ?_) (fun hg13 => ?_)
      ·have hG13 := hg13; try simp only [gS] at hG13
       have hc0 : canS d i ≠ 0 := fun h => by
         have : pc (canS d i) = 1 := by omega
         rw [h, pc_zero] at this; omega
       refine sy_ops ?_
       refine o_v hf hh (yv_move rfl) ?_; clear hf a; intro a hf
       first | refine o_v hf hh (yv_convx (.inr rfl) (by kernel_rfl) Tryd.un_104 rfl (by omega) (by simp only [IntKind.top]; omega)) ?_; clear hf a; intro a hf | refine o_v hf hh (yv_conv (by kernel_rfl) Tryd.un_104 rfl) ?_; clear hf a; intro a hf
       refine o_call hf Tryd.en_69 rfl rfl rfl (c69 (canS d i) (by omega) hc0 _ (hT.ext hh.ext (by simp))) ?_; clear hf a; intro v a w hR hf
       obtain ⟨rfl, hx⟩ := hR; replace hh := hh.more hx; clear hx
       refine o_v hf hh (yv_assign rfl) ?_; clear hf a; intro a hf
       refine o_end ?_
       refine sy_ops ?_
       refine o_v hf hh (yv_move rfl) ?_; clear hf a; intro a hf
       refine o_v hf hh (yv_cast (yv_move rfl) (intv (b := sureN d i) (by unfold sureN; first | rw [if_neg (fun h => by have := h.1; omega)] | rw [if_neg (fun h => Bool.noConfusion (h.2.symm.trans (by assumption) : false = true))] | rw [if_pos ⟨by omega, by assumption⟩]))) ?_; clear hf a; intro a hf
       refine ops_buildSl hf hh Tryd.bl_55_1 rfl rfl (.inl rfl) rfl ?_; clear hf hh; clear a; intro B40 a w hf hh
       have hown3t : ivs ((sureL d).take (i + 1)) = ivs ((sureL d).take i) ++ [.int .i64 (sureN d i)] := ivs_take (by omega)
       refine ops_append (e := 3) (size := 1) (xs := ivs ((sureL d).take i)) (Z := [(Bo, .cells cso 73), (B1, .cells (rowsV d sa sb ca cb).cells 26)]) hf hh Tryd.eb_55 rfl rfl hown rfl rfl rfl (by simp only [maxLen]; omega) (by omega) (.inl rfl) rfl ?_; clear hf hh; clear a w; intro v3 X3 a w hown3 hf hh
       refine o_v hf hh (yv_assign rfl) ?_; clear hf a; intro a hf
       refine ops_end ?_
       refine blk_n ?_
       refine then_n ?_
       refine sy_ops ?_
       refine o_v hf hh (y_add rfl rfl) ?_; clear hf a; intro a hf
       refine o_v hf hh (yv_move rfl) ?_; clear hf a; intro a hf
       refine ops_end ?_
       refine then_n ?_
       exact ⟨(i + 1, v3, X3), ⟨⟨by simp only; omega, by simp only [hown3t]; exact hown3, hh⟩, hf.head ⟨rfl, rfl, True.intro⟩ (Keep.cons rfl (Keep.cons rfl (Keep.cons rfl (Keep.cons rfl (Keep.cons rfl (Keep.cons rfl (Keep.cons rfl (Keep.cons rfl (Keep.cons rfl (Keep.cons rfl (Keep.cons rfl (Keep.cons rfl (Keep.cons rfl (Keep.cons rfl (Keep.cons rfl (Keep.cons rfl (Keep.cons rfl (Keep.cons rfl (Keep.cons rfl (Keep.cons rfl (Keep.cons rfl (Keep.cons rfl (Keep.cons rfl (Keep.cons rfl (Keep.cons rfl (Keep.cons rfl (Keep.cons rfl (Keep.cons rfl (Keep.cons rfl (Keep.app rfl (Keep.rm rfl Keep.base)))))))))))))))))))))))))))))))⟩, by simp only; omega⟩
      ·have hG13 := hg13; try simp only [gS] at hG13
       refine sy_skip ?_
       refine then_n ?_
       refine sy_ops ?_
       refine o_v hf hh (yv_move rfl) ?_; clear hf a; intro a hf
       refine o_v hf hh (yv_cast (yv_move rfl) (intv (b := sureN d i) (by unfold sureN; first | rw [if_neg (fun h => by have := h.1; omega)] | rw [if_neg (fun h => Bool.noConfusion (h.2.symm.trans (by assumption) : false = true))] | rw [if_pos ⟨by omega, by assumption⟩]))) ?_; clear hf a; intro a hf
       refine ops_buildSl hf hh Tryd.bl_55_1 rfl rfl (.inl rfl) rfl ?_; clear hf hh; clear a; intro B40 a w hf hh
       have hown3t : ivs ((sureL d).take (i + 1)) = ivs ((sureL d).take i) ++ [.int .i64 (sureN d i)] := ivs_take (by omega)
       refine ops_append (e := 3) (size := 1) (xs := ivs ((sureL d).take i)) (Z := [(Bo, .cells cso 73), (B1, .cells (rowsV d sa sb ca cb).cells 26)]) hf hh Tryd.eb_55 rfl rfl hown rfl rfl rfl (by simp only [maxLen]; omega) (by omega) (.inl rfl) rfl ?_; clear hf hh; clear a w; intro v3 X3 a w hown3 hf hh
       refine o_v hf hh (yv_assign rfl) ?_; clear hf a; intro a hf
       refine ops_end ?_
       refine blk_n ?_
       refine then_n ?_
       refine sy_ops ?_
       refine o_v hf hh (y_add rfl rfl) ?_; clear hf a; intro a hf
       refine o_v hf hh (yv_move rfl) ?_; clear hf a; intro a hf
       refine ops_end ?_
       refine then_n ?_
       exact ⟨(i + 1, v3, X3), ⟨⟨by simp only; omega, by simp only [hown3t]; exact hown3, hh⟩, hf.head ⟨rfl, rfl, True.intro⟩ (Keep.cons rfl (Keep.cons rfl (Keep.cons rfl (Keep.cons rfl (Keep.cons rfl (Keep.cons rfl (Keep.cons rfl (Keep.cons rfl (Keep.cons rfl (Keep.cons rfl (Keep.cons rfl (Keep.cons rfl (Keep.cons rfl (Keep.cons rfl (Keep.cons rfl (Keep.cons rfl (Keep.cons rfl (Keep.cons rfl (Keep.cons rfl (Keep.cons rfl (Keep.cons rfl (Keep.cons rfl (Keep.cons rfl (Keep.cons rfl (Keep.cons rfl (Keep.app rfl (Keep.rm rfl Keep.base)))))))))))))))))))))))))))⟩, by simp only; omega⟩
     ·have hG11 := hg11; try simp only [gS] at hG11
      refine o_off hf ?_; clear hf a; intro a hf
      refine o_off hf ?_; clear hf a; intro a hf
      refine o_off hf ?_; clear hf a; intro a hf
      refine o_off hf ?_; clear hf a; intro a hf
      refine o_v hf hh (y_pf rfl rfl) ?_; clear hf a; intro a hf
      refine o_end ?_
      refine c_f hf ?_
      refine sy_skip ?_
      refine then_n ?_
      refine sy_ops ?_
      refine o_v hf hh (yv_move rfl) ?_; clear hf a; intro a hf
      refine o_v hf hh (yv_cast (yv_move rfl) (intv (b := sureN d i) (by unfold sureN; first | rw [if_neg (fun h => by have := h.1; omega)] | rw [if_neg (fun h => Bool.noConfusion (h.2.symm.trans (by assumption) : false = true))] | rw [if_pos ⟨by omega, by assumption⟩]))) ?_; clear hf a; intro a hf
      refine ops_buildSl hf hh Tryd.bl_55_1 rfl rfl (.inl rfl) rfl ?_; clear hf hh; clear a; intro B40 a w hf hh
      have hown3t : ivs ((sureL d).take (i + 1)) = ivs ((sureL d).take i) ++ [.int .i64 (sureN d i)] := ivs_take (by omega)
      refine ops_append (e := 3) (size := 1) (xs := ivs ((sureL d).take i)) (Z := [(Bo, .cells cso 73), (B1, .cells (rowsV d sa sb ca cb).cells 26)]) hf hh Tryd.eb_55 rfl rfl hown rfl rfl rfl (by simp only [maxLen]; omega) (by omega) (.inl rfl) rfl ?_; clear hf hh; clear a w; intro v3 X3 a w hown3 hf hh
      refine o_v hf hh (yv_assign rfl) ?_; clear hf a; intro a hf
      refine ops_end ?_
      refine blk_n ?_
      refine then_n ?_
      refine sy_ops ?_
      refine o_v hf hh (y_add rfl rfl) ?_; clear hf a; intro a hf
      refine o_v hf hh (yv_move rfl) ?_; clear hf a; intro a hf
      refine ops_end ?_
      refine then_n ?_
      exact ⟨(i + 1, v3, X3), ⟨⟨by simp only; omega, by simp only [hown3t]; exact hown3, hh⟩, hf.head ⟨rfl, rfl, True.intro⟩ (Keep.cons rfl (Keep.cons rfl (Keep.cons rfl (Keep.cons rfl (Keep.cons rfl (Keep.cons rfl (Keep.cons rfl (Keep.cons rfl (Keep.cons rfl (Keep.cons rfl (Keep.cons rfl (Keep.cons rfl (Keep.cons rfl (Keep.cons rfl (Keep.cons rfl (Keep.cons rfl (Keep.cons rfl (Keep.cons rfl (Keep.cons rfl (Keep.cons rfl (Keep.cons rfl (Keep.cons rfl (Keep.cons rfl (Keep.cons rfl (Keep.cons rfl (Keep.app rfl (Keep.rm rfl Keep.base)))))))))))))))))))))))))))⟩, by simp only; omega⟩
    ·have hG7 := hg7; try simp only [gS] at hG7
     refine sy_exit ?_
     refine then_e ?_
     refine then_e ?_
     refine blk_e ?_
     refine then_n ?_
     refine sy_sq ?_
     refine o_v hf hh (yv_move rfl) ?_; clear hf a; intro a hf
     refine o_v hf hh (yv_assign rfl) ?_; clear hf a; intro a hf
     refine o_v hf hh (yv_assign rfl) ?_; clear hf a; intro a hf
     refine o_end ?_
     refine sy_ret ?_
     refine ret_r hf rfl rfl ?_
     have hie : i = d.l.length := by omega
     have htk : (sureL d).take i = sureL d := List.take_of_length_le (by simp [sureL, hie])
     rw [htk] at hown
     refine ⟨v2, X2, by rw [hop]; rfl, ?_, hh.less (List.sublist_append_left _ _)⟩
     rw [if_pos hop, show (sureL d).length = i by simp [sureL, hie]]; exact hown
theorem c34 (d : RowsD) (sa sb : Option Addr) (ca cb : Nat) (u : World) (hA : MkAt u sa d.l) (hB : MkAt u sb d.r) : Calls Tryd.prog 34 #[rowsV d sa sb ca cb] u (Ret fun v w' => v = .tuple #[.int .i64 (if opE d true = 0 then (hideA d : Int) else 0), .int .i64 (if opE d true = 0 then (hideB d : Int) else 0), .int .i64 (opE d true)] ∧ Ext [] u w') := by
  refine calls_of Tryd.func34 rfl rfl (fun a hf => ?_)
  have hh := Hp.init u []
  refine sy_sq ?_
  refine o_box hf hh ?_; clear hf hh a; intro B1 a w hf hh
  refine o_v hf hh (yv_assign rfl) ?_; clear hf a; intro a hf
  refine o_v hf hh (yv_assign rfl) ?_; clear hf a; intro a hf
  refine o_v hf hh (yv_assign rfl) ?_; clear hf a; intro a hf
  refine o_end ?_
  refine sy_sq ?_
  refine o_v hf hh (y_lds Tryd.ag_26 rfl) ?_; clear hf a; intro a hf
  refine o_call hf Tryd.en_49 rfl rfl rfl (c49e d sa sb ca cb _ (hA.ext hh.ext) (hB.ext hh.ext) true) ?_; clear hf a; intro v a w hR hf
  obtain ⟨p, Xp, rfl, hp0, hx⟩ := hR; replace hh := hh.join hx; clear hx
  refine o_v hf hh (yv_move rfl) ?_; clear hf a; intro a hf
  refine o_v hf hh (yv_extract rfl rfl) ?_; clear hf a; intro a hf
  refine o_v hf hh (yv_extract rfl rfl) ?_; clear hf a; intro a hf
  refine o_v hf hh (yv_assign rfl) ?_; clear hf a; intro a hf
  refine o_v hf hh (yv_assign rfl) ?_; clear hf a; intro a hf
  refine o_end ?_
  refine sy_seq ?_
  refine sy_sq ?_
  refine o_v hf hh (yv_move rfl) ?_; clear hf a; intro a hf
  refine o_v hf hh (yv_bin rfl rfl rfl) ?_; clear hf a; intro a hf
  refine o_end ?_
  refine sy_cond hf rfl (fun hg5 => ?_) (fun hg5 => ?_)
  ·have hG5 := hg5; try simp only [gS] at hG5
   refine sy_sq ?_
   refine o_v hf hh (yv_move rfl) ?_; clear hf a; intro a hf
   refine o_v hf hh (yv_assign rfl) ?_; clear hf a; intro a hf
   refine o_v hf hh (yv_assign rfl) ?_; clear hf a; intro a hf
   refine o_v hf hh (yv_assign rfl) ?_; clear hf a; intro a hf
   refine o_end ?_
   refine sy_ret ?_
   refine then_r ?_
   refine ret_r hf rfl rfl ?_
   have hne : ¬ opE d true = 0 := by simp_all
   exact ⟨by rw [if_neg hne, if_neg hne]; rfl, hh.ext⟩
  ·have hG5 := hg5; try simp only [gS] at hG5
   refine sy_skip ?_
   refine then_n ?_
   refine sy_seq ?_
   have hop : opE d true = 0 := by simp_all
   obtain ⟨Bo, cso, rfl, hRo, rfl⟩ := hp0 hop
   obtain ⟨hok, _, his⟩ := opE_zero.1 hop
   have hV := (okRows_iff d).1 hok
   have hnl := hV.nl; have hnr := hV.nr
   clear hp0
   refine sy_ops ?_
   refine o_v hf hh (yv_assign rfl) ?_; clear hf a; intro a hf
   refine o_v hf hh (yv_assign rfl) ?_; clear hf a; intro a hf
   refine o_end ?_
   refine sy_seq ?_
   refine sy_sq ?_
   refine o_v hf hh (yv_fieldAddr Tryd.fo_26_0 rfl) ?_; clear hf a; intro a hf
   refine o_v hf hh (y_ld Tryd.sc_22 rfl) ?_; clear hf a; intro a hf
   refine o_v hf hh (yv_len Tryd.se_22 rfl) ?_; clear hf a; intro a hf
   refine o_v hf hh (yv_move rfl) ?_; clear hf a; intro a hf
   refine o_end ?_
   refine sy_block ?_
   refine sy_loopH (σ := Nat) [6, 8, 21, 22, 23, 24, 25, 26, 27, 28, 29, 30, 31, 32] (fun i => [(6, .int .i64 (setF (fun i => hidD d i (-1)) i : Nat)), (21, .int .i64 i)]) (fun i => fun w => i ≤ d.l.length ∧ Hp u [] [(Bo, .cells cso 73), (B1, .cells (rowsV d sa sb ca cb).cells 26)] w) (fun i => d.l.length - i) (0) hf ?_ ?_ ?_
   · repeat' (first | exact True.intro | refine And.intro rfl ?_)
   · exact ⟨Nat.zero_le _, hh⟩
   ·rintro i a w ⟨hi, hh⟩ hf
    refine sy_sq ?_
    refine o_v hf hh (yv_bin rfl rfl rfl) ?_; clear hf a; intro a hf
    refine o_end ?_
    refine sy_seq ?_
    refine sy_cond hf rfl (fun hg7 => ?_) (fun hg7 => ?_)
    ·have hG7 := hg7; try simp only [gS] at hG7
     refine sy_skip ?_
     refine then_n ?_
     refine sy_seq ?_
     refine sy_block ?_
     refine sy_sq ?_
     refine o_v hf hh (yv_move rfl) ?_; clear hf a; intro a hf
     refine o_v hf hh (yv_assign rfl) ?_; clear hf a; intro a hf
     refine o_end ?_
     refine sy_sq ?_
     refine o_v hf hh (yv_move rfl) ?_; clear hf a; intro a hf
     refine o_v hf hh (yv_move rfl) ?_; clear hf a; intro a hf
     refine o_call hf Tryd.en_68 rfl rfl rfl (c68 d sa sb ca cb (fitD d) Bo _ ⟨⟨cso, hh.get (Bo, .cells cso 73) (by simp), hRo⟩, hnl, hnr⟩ hV (fitD_FB d) i (-1)) ?_; clear hf a; intro v a w hR hf
     replace hR : v = .bool (hidD d i (-1)) ∧ _ := hR
     obtain ⟨rfl, hx⟩ := hR; replace hh := hh.more hx; clear hx
     refine o_end ?_
     refine sy_cond hf rfl (fun hg9 => ?_) (fun hg9 => ?_)
     ·have hG9 := hg9; try simp only [gS] at hG9
      have hsl := setF_lt (fun i => hidD d i (-1)) i
      have hp10 : 2 ^ i ≤ 2 ^ 10 := Nat.pow_le_pow_right (by omega) (by omega)
      refine sy_ops ?_
      refine o_v hf hh (yv_move rfl) ?_; clear hf a; intro a hf
      refine o_v hf hh (yv_move rfl) ?_; clear hf a; intro a hf
      refine ops_v hf hh (yv_cast (yv_shl1 (.inl rfl) rfl rfl (by omega) (by omega)) (intv (b := ((2 ^ i : Nat) : Int)) (by rw [Int.toNat_natCast]))) (.inl rfl) rfl rfl rfl ?_; clear hf a; intro a hf
      refine ops_buildSl hf hh Tryd.bl_131_2 rfl rfl (.inl rfl) rfl ?_; clear hf hh; clear a; intro B30 a w hf hh
      refine o_call hf Tryd.en_70 rfl rfl rfl (c70 (setF (fun i => hidD d i (-1)) i) (2 ^ i) B30 (by omega) (by omega) _ (hh.at (i := 0) rfl)) ?_; clear hf a; intro v a w hR hf
      obtain ⟨rfl, hx⟩ := hR; replace hh := hh.more hx; clear hx
      refine o_v hf hh (yv_assign rfl) ?_; clear hf a; intro a hf
      refine ops_end ?_
      refine blk_n ?_
      refine then_n ?_
      refine sy_ops ?_
      refine o_v hf hh (y_add rfl rfl) ?_; clear hf a; intro a hf
      refine o_v hf hh (yv_move rfl) ?_; clear hf a; intro a hf
      refine ops_end ?_
      refine then_n ?_
      have hst : setF (fun i => hidD d i (-1)) (i + 1) = if (fun i => hidD d i (-1)) i = true then setF (fun i => hidD d i (-1)) i + 2 ^ i else setF (fun i => hidD d i (-1)) i := rfl
      first
        | (have hq : (fun i => hidD d i (-1)) i = true := (by assumption)
           rw [if_pos hq, ← setF_or] at hst
           exact ⟨i + 1, ⟨⟨by omega, hh.less (.cons _ (.refl _))⟩, hf.head ⟨congrArg (fun z : Nat => some (Value.int IntKind.i64 z)) hst.symm, rfl, True.intro⟩ (Keep.cons rfl (Keep.cons rfl (Keep.cons rfl (Keep.cons rfl (Keep.cons rfl (Keep.cons rfl (Keep.cons rfl (Keep.cons rfl (Keep.cons rfl (Keep.cons rfl (Keep.cons rfl (Keep.cons rfl (Keep.cons rfl (Keep.cons rfl (Keep.app rfl (Keep.rm rfl Keep.base))))))))))))))))⟩, by omega⟩)
        | (have hq : (fun i => hidD d i (-1)) i = false := (by assumption)
           rw [if_neg (by rw [hq]; simp)] at hst
           exact ⟨i + 1, ⟨⟨by omega, hh⟩, hf.head ⟨congrArg (fun z : Nat => some (Value.int IntKind.i64 z)) hst.symm, rfl, True.intro⟩ (Keep.cons rfl (Keep.cons rfl (Keep.cons rfl (Keep.cons rfl (Keep.cons rfl (Keep.cons rfl (Keep.cons rfl (Keep.cons rfl (Keep.cons rfl (Keep.cons rfl (Keep.cons rfl (Keep.cons rfl (Keep.cons rfl (Keep.cons rfl (Keep.app rfl (Keep.rm rfl Keep.base))))))))))))))))⟩, by omega⟩)
     ·have hG9 := hg9; try simp only [gS] at hG9
      refine sy_skip ?_
      refine blk_n ?_
      refine then_n ?_
      refine sy_ops ?_
      refine o_v hf hh (y_add rfl rfl) ?_; clear hf a; intro a hf
      refine o_v hf hh (yv_move rfl) ?_; clear hf a; intro a hf
      refine ops_end ?_
      refine then_n ?_
      have hst : setF (fun i => hidD d i (-1)) (i + 1) = if (fun i => hidD d i (-1)) i = true then setF (fun i => hidD d i (-1)) i + 2 ^ i else setF (fun i => hidD d i (-1)) i := rfl
      first
        | (have hq : (fun i => hidD d i (-1)) i = true := (by assumption)
           rw [if_pos hq, ← setF_or] at hst
           exact ⟨i + 1, ⟨⟨by omega, hh.less (.cons _ (.refl _))⟩, hf.head ⟨congrArg (fun z : Nat => some (Value.int IntKind.i64 z)) hst.symm, rfl, True.intro⟩ (Keep.cons rfl (Keep.cons rfl (Keep.cons rfl (Keep.cons rfl (Keep.cons rfl (Keep.cons rfl (Keep.cons rfl (Keep.cons rfl (Keep.app rfl (Keep.rm rfl Keep.base))))))))))⟩, by omega⟩)
        | (have hq : (fun i => hidD d i (-1)) i = false := (by assumption)
           rw [if_neg (by rw [hq]; simp)] at hst
           exact ⟨i + 1, ⟨⟨by omega, hh⟩, hf.head ⟨congrArg (fun z : Nat => some (Value.int IntKind.i64 z)) hst.symm, rfl, True.intro⟩ (Keep.cons rfl (Keep.cons rfl (Keep.cons rfl (Keep.cons rfl (Keep.cons rfl (Keep.cons rfl (Keep.cons rfl (Keep.cons rfl (Keep.app rfl (Keep.rm rfl Keep.base))))))))))⟩, by omega⟩)
    ·have hG7 := hg7; try simp only [gS] at hG7
     refine sy_exit ?_
     refine then_e ?_
     refine then_e ?_
     refine blk_e ?_
     refine then_n ?_
     refine sy_seq ?_
     refine sy_sq ?_
     refine o_v hf hh (yv_fieldAddr Tryd.fo_26_1 rfl) ?_; clear hf a; intro a hf
     refine o_v hf hh (y_ld Tryd.sc_22 rfl) ?_; clear hf a; intro a hf
     refine o_v hf hh (yv_len Tryd.se_22 rfl) ?_; clear hf a; intro a hf
     refine o_v hf hh (yv_move rfl) ?_; clear hf a; intro a hf
     refine o_end ?_
     refine sy_block ?_
     refine sy_loopH (σ := Nat) [7, 9, 36, 37, 38, 39, 40, 41, 42, 43, 44, 45, 46, 47] (fun k => [(7, .int .i64 (setF (fun k => hidD d (-1) k) k : Nat)), (36, .int .i64 k)]) (fun k => fun w => k ≤ d.r.length ∧ Hp u [] [(Bo, .cells cso 73), (B1, .cells (rowsV d sa sb ca cb).cells 26)] w) (fun k => d.r.length - k) (0) hf ?_ ?_ ?_
     · repeat' (first | exact True.intro | refine And.intro rfl ?_)
     · exact ⟨Nat.zero_le _, hh⟩
     ·rintro k a w ⟨hi, hh⟩ hf
      refine sy_sq ?_
      refine o_v hf hh (yv_bin rfl rfl rfl) ?_; clear hf a; intro a hf
      refine o_end ?_
      refine sy_seq ?_
      refine sy_cond hf rfl (fun hg13 => ?_) (fun hg13 => ?_)
      ·have hG13 := hg13; try simp only [gS] at hG13
       refine sy_skip ?_
       refine then_n ?_
       refine sy_seq ?_
       refine sy_block ?_
       refine sy_sq ?_
       refine o_v hf hh (yv_move rfl) ?_; clear hf a; intro a hf
       refine o_v hf hh (yv_assign rfl) ?_; clear hf a; intro a hf
       refine o_end ?_
       refine sy_sq ?_
       refine o_v hf hh (yv_move rfl) ?_; clear hf a; intro a hf
       refine o_v hf hh (yv_move rfl) ?_; clear hf a; intro a hf
       refine o_call hf Tryd.en_68 rfl rfl rfl (c68 d sa sb ca cb (fitD d) Bo _ ⟨⟨cso, hh.get (Bo, .cells cso 73) (by simp), hRo⟩, hnl, hnr⟩ hV (fitD_FB d) (-1) k) ?_; clear hf a; intro v a w hR hf
       replace hR : v = .bool (hidD d (-1) k) ∧ _ := hR
       obtain ⟨rfl, hx⟩ := hR; replace hh := hh.more hx; clear hx
       refine o_end ?_
       refine sy_cond hf rfl (fun hg15 => ?_) (fun hg15 => ?_)
       ·have hG15 := hg15; try simp only [gS] at hG15
        have hsl := setF_lt (fun k => hidD d (-1) k) k
        have hp10 : 2 ^ k ≤ 2 ^ 10 := Nat.pow_le_pow_right (by omega) (by omega)
        refine sy_ops ?_
        refine o_v hf hh (yv_move rfl) ?_; clear hf a; intro a hf
        refine o_v hf hh (yv_move rfl) ?_; clear hf a; intro a hf
        refine ops_v hf hh (yv_cast (yv_shl1 (.inl rfl) rfl rfl (by omega) (by omega)) (intv (b := ((2 ^ k : Nat) : Int)) (by rw [Int.toNat_natCast]))) (.inl rfl) rfl rfl rfl ?_; clear hf a; intro a hf
        refine ops_buildSl hf hh Tryd.bl_131_2 rfl rfl (.inl rfl) rfl ?_; clear hf hh; clear a; intro B45 a w hf hh
        refine o_call hf Tryd.en_70 rfl rfl rfl (c70 (setF (fun k => hidD d (-1) k) k) (2 ^ k) B45 (by omega) (by omega) _ (hh.at (i := 0) rfl)) ?_; clear hf a; intro v a w hR hf
        obtain ⟨rfl, hx⟩ := hR; replace hh := hh.more hx; clear hx
        refine o_v hf hh (yv_assign rfl) ?_; clear hf a; intro a hf
        refine ops_end ?_
        refine blk_n ?_
        refine then_n ?_
        refine sy_ops ?_
        refine o_v hf hh (y_add rfl rfl) ?_; clear hf a; intro a hf
        refine o_v hf hh (yv_move rfl) ?_; clear hf a; intro a hf
        refine ops_end ?_
        refine then_n ?_
        have hst : setF (fun k => hidD d (-1) k) (k + 1) = if (fun k => hidD d (-1) k) k = true then setF (fun k => hidD d (-1) k) k + 2 ^ k else setF (fun k => hidD d (-1) k) k := rfl
        first
          | (have hq : (fun k => hidD d (-1) k) k = true := (by assumption)
             rw [if_pos hq, ← setF_or] at hst
             exact ⟨k + 1, ⟨⟨by omega, hh.less (.cons _ (.refl _))⟩, hf.head ⟨congrArg (fun z : Nat => some (Value.int IntKind.i64 z)) hst.symm, rfl, True.intro⟩ (Keep.cons rfl (Keep.cons rfl (Keep.cons rfl (Keep.cons rfl (Keep.cons rfl (Keep.cons rfl (Keep.cons rfl (Keep.cons rfl (Keep.cons rfl (Keep.cons rfl (Keep.cons rfl (Keep.cons rfl (Keep.cons rfl (Keep.cons rfl (Keep.app rfl (Keep.rm rfl Keep.base))))))))))))))))⟩, by omega⟩)
          | (have hq : (fun k => hidD d (-1) k) k = false := (by assumption)
             rw [if_neg (by rw [hq]; simp)] at hst
             exact ⟨k + 1, ⟨⟨by omega, hh⟩, hf.head ⟨congrArg (fun z : Nat => some (Value.int IntKind.i64 z)) hst.symm, rfl, True.intro⟩ (Keep.cons rfl (Keep.cons rfl (Keep.cons rfl (Keep.cons rfl (Keep.cons rfl (Keep.cons rfl (Keep.cons rfl (Keep.cons rfl (Keep.cons rfl (Keep.cons rfl (Keep.cons rfl (Keep.cons rfl (Keep.cons rfl (Keep.cons rfl (Keep.app rfl (Keep.rm rfl Keep.base))))))))))))))))⟩, by omega⟩)
       ·have hG15 := hg15; try simp only [gS] at hG15
        refine sy_skip ?_
        refine blk_n ?_
        refine then_n ?_
        refine sy_ops ?_
        refine o_v hf hh (y_add rfl rfl) ?_; clear hf a; intro a hf
        refine o_v hf hh (yv_move rfl) ?_; clear hf a; intro a hf
        refine ops_end ?_
        refine then_n ?_
        have hst : setF (fun k => hidD d (-1) k) (k + 1) = if (fun k => hidD d (-1) k) k = true then setF (fun k => hidD d (-1) k) k + 2 ^ k else setF (fun k => hidD d (-1) k) k := rfl
        first
          | (have hq : (fun k => hidD d (-1) k) k = true := (by assumption)
             rw [if_pos hq, ← setF_or] at hst
             exact ⟨k + 1, ⟨⟨by omega, hh.less (.cons _ (.refl _))⟩, hf.head ⟨congrArg (fun z : Nat => some (Value.int IntKind.i64 z)) hst.symm, rfl, True.intro⟩ (Keep.cons rfl (Keep.cons rfl (Keep.cons rfl (Keep.cons rfl (Keep.cons rfl (Keep.cons rfl (Keep.cons rfl (Keep.cons rfl (Keep.app rfl (Keep.rm rfl Keep.base))))))))))⟩, by omega⟩)
          | (have hq : (fun k => hidD d (-1) k) k = false := (by assumption)
             rw [if_neg (by rw [hq]; simp)] at hst
             exact ⟨k + 1, ⟨⟨by omega, hh⟩, hf.head ⟨congrArg (fun z : Nat => some (Value.int IntKind.i64 z)) hst.symm, rfl, True.intro⟩ (Keep.cons rfl (Keep.cons rfl (Keep.cons rfl (Keep.cons rfl (Keep.cons rfl (Keep.cons rfl (Keep.cons rfl (Keep.cons rfl (Keep.app rfl (Keep.rm rfl Keep.base))))))))))⟩, by omega⟩)
      ·have hG13 := hg13; try simp only [gS] at hG13
       refine sy_exit ?_
       refine then_e ?_
       refine then_e ?_
       refine blk_e ?_
       refine then_n ?_
       refine sy_sq ?_
       refine o_v hf hh (yv_move rfl) ?_; clear hf a; intro a hf
       refine o_v hf hh (yv_move rfl) ?_; clear hf a; intro a hf
       refine o_v hf hh (yv_assign rfl) ?_; clear hf a; intro a hf
       refine o_v hf hh (yv_assign rfl) ?_; clear hf a; intro a hf
       refine o_v hf hh (yv_assign rfl) ?_; clear hf a; intro a hf
       refine o_end ?_
       refine sy_ret ?_
       refine ret_r hf rfl rfl ?_
       have hie : i = d.l.length := by omega
       have hke : k = d.r.length := by omega
       subst hie; subst hke
       exact ⟨by rw [if_pos hop, if_pos hop, hop]; rfl, hh.ext⟩
end Go.Proofs.YtemmhdgaagaglaaDoor
