/- Lemmas, in order: Things that are copied, and one of them changed, in memory. The document's card told; spans in spans. A pair of one lens and one base: what stands as far away as may be asked. Why no trimming helps; of two bases the narrower one is the easier one to mount. Package mount: why no trimming helps. Plain mathematics of bars, no program in sight: what the document says of plans. The reference's small functions, walked. The reference's best pair of slots, walked. The reference's plans and bars, walked. The program's small functions, walked. More plain mathematics of bars: the program's way of looking. The program's looking at a bar, walked: small steps. The program's opening of a bar, walked. Bits, and the pairs of slots in the program's order. The program's iterator of pairs, walked. The program's pairs of slots against the document's. The program's set of scenes that a plan takes, walked.. -/
import Derived.Test.YtccpgpnekoncoaaGreatDoorQ11
import Derived.Test.YtccpgpnekoncoaaGreatDoorProg
import Derived.Shelf.Spec.TrailingZeros
namespace Go.PaiM
open Go Go.Sy
end Go.PaiM

namespace Go.Proofs.YtccpgpnekoncoaaGreatDoor
open Go Go.Sy Go.PaiM
theorem c_Trim03 (B : Nat) (u : World) (hb : u.heap[B]? = some (.cells ts03 46 (0, 0))) : Calls Tryz.prog 53 #[.agg (caA ca03 (some ⟨B, 0, none⟩) 2)] u (Ret fun v w' => v = .tuple #[.agg #[.int .i64 2, .int .i64 1, .int .i64 0, .int .i64 3], .int .i64 0] ∧ Ext [] u w') := by
  have h := c_Trim ca03 (some ⟨B, 0, none⟩) 2 y03 ok03 pow03 u (th03_at hb)
  rw [bst03] at h
  exact h
theorem c_Depths03 (B : Nat) (u : World) (hb : u.heap[B]? = some (.cells ts03 46 (0, 0))) : Calls Tryz.prog 55 #[.agg (caA ca03 (some ⟨B, 0, none⟩) 2), .agg #[.int .i64 2, .int .i64 1, .int .i64 0, .int .i64 3]] u (Ret fun v w' => v = .tuple #[.agg #[.int .i64 2956, .int .i64 11700], .int .i64 0] ∧ Ext [] u w') := by
  have h := c_Depths ca03 (some ⟨B, 0, none⟩) 2 y03 ok03 pow03 e03 trm03 u (th03_at hb)
  rw [dep03] at h
  exact h
theorem c_Dist03 (B : Nat) (u : World) (hb : u.heap[B]? = some (.cells ts03 46 (0, 0))) : Calls Tryz.prog 12 #[.agg (prA ca03.pr (some ⟨B, 0, none⟩) 2), .int .i64 1] u (Ret fun v w' => v = .tuple #[.agg #[.int .i64 9591, .int .i64 10241], .int .i64 0] ∧ Ext [] u w') := by
  have h := c_Distance ca03.pr (some ⟨B, 0, none⟩) 2 (t03 1) 1 ok03.pr rfl u (th03_at hb)
  obtain ⟨e1, e2⟩ := dis_yes pow03 st03
  rw [e1, e2, dis03] at h
  exact h
set_option maxRecDepth 100000 in
set_option maxHeartbeats 4000000 in
theorem c_awake03 (u : World) : Calls Tryz.prog 19 #[] u (Ret fun v w' => v = .bool true ∧ Ext [] u w') := by
  refine calls_of Tryz.func19 rfl rfl (fun a hf => ?_)
  have hh := Hp.init u []
  refine sy_sq ?_
  refine o_v hf hh (yv_assign rfl) ?_; clear hf a; intro a hf
  refine o_end ?_
  refine sy_sq ?_
  refine o_call hf Tryz.en_54 rfl rfl rfl (c_card03 _) ?_; clear hf a; intro v a w hR hf
  obtain ⟨Ca, rfl, hx⟩ := hR; replace hh := hh.join hx; clear hx
  refine o_call hf Tryz.en_53 rfl rfl rfl (c_Trim03 Ca _ (hh.at (i := 0) rfl)) ?_; clear hf a; intro v a w hR hf
  obtain ⟨rfl, hx⟩ := hR; replace hh := hh.more hx; clear hx
  refine o_v hf hh (yv_move rfl) ?_; clear hf a; intro a hf
  refine o_v hf hh (yv_extract rfl rfl) ?_; clear hf a; intro a hf
  refine o_v hf hh (yv_extract rfl rfl) ?_; clear hf a; intro a hf
  refine o_alloc hf hh Tryz.ze_120 ?_; clear hf hh a; intro B1 a w hf hh
  refine o_store hf hh Tryz.sz_120 fun w hh => ?_
  refine o_v hf hh (yv_assign rfl) ?_; clear hf a; intro a hf
  refine o_end ?_
  refine sy_cut (σ := Nat) [3, 4, 12, 13, 14, 15, 16, 17] (fun B3 => [(3, ptr B3 0), (4, .int .i64 0)]) (fun B3 => fun w' => Hp u [] [(B3, .cells #[.int .i64 2956, .int .i64 11700] 35), (B1, .cells #[.int .i64 2, .int .i64 1, .int .i64 0, .int .i64 3] 120)] w') hf ?_ ?_
  ·replace hh := hh.pick [0]
   replace hh : Hp u [] [(B1, .cells #[.int .i64 2, .int .i64 1, .int .i64 0, .int .i64 3] 120)] w := hh
   refine sy_treeC (.q 0 1 (.e2 0 (.e2 2 (.p 3 (.p 4 (.p 5 (.e1 6 (.e1 7 (.p 8 (.fin))))))) 6 (.e1 2 (.p 3 (.p 4 (.p 5 (.e1 7 (.p 8 (.fin)))))))) 6 (.e1 0 (.e1 2 (.p 3 (.p 4 (.p 5 (.e1 7 (.p 8 (.fin)))))))))) [[]] [(AtE u [] [(B1, .cells #[.int .i64 2, .int .i64 1, .int .i64 0, .int .i64 3] 120)], [])] Tryz.follows (by kernel_rfl) rfl hh (fun w hh => ?_)
   refine mc_q rfl rfl (AtE.of hh (by intro q hq; rw [List.mem_singleton.1 hq]; simp)) hf (y_lds Tryz.ag_120 rfl) (.inl rfl) rfl rfl ?_; clear hf a; intro a hf
   refine ⟨?_, ?_⟩
   ·refine mc_e rfl fun Q1 => ?_
    refine o_call hf Tryz.en_54 rfl rfl rfl (c_card03 _) ?_; clear hf a; intro v a w hR hf
    obtain ⟨Cb, rfl, hx⟩ := hR; replace hh := hh.join hx; clear hx
    refine ops_end ?_
    refine then_n ⟨⟨fun _ _ => (AtE.of hh (by intro q hq; rw [List.mem_singleton.1 hq]; simp)), trivial⟩, ?_⟩
    refine ⟨?_, ?_⟩
    ·refine mc_e rfl fun Q1 => ?_
     refine o_call hf Tryz.en_55 rfl rfl rfl (c_Depths03 Cb _ (hh.get (Cb, .cells ts03 46) (by simp))) ?_; clear hf a; intro v a w hR hf
     obtain ⟨rfl, hx⟩ := hR; replace hh := hh.more hx; clear hx
     refine ops_end ?_
     refine then_n ⟨⟨fun _ _ => (AtE.of hh (by intro q hq; rw [List.mem_singleton.1 hq]; simp)), trivial⟩, ?_⟩
     refine mc_p rfl   hf (yv_move rfl) (.inl rfl) rfl rfl ?_; clear hf a; intro a hf
     refine mc_p rfl   hf (yv_extract rfl rfl) (.inl rfl) rfl rfl ?_; clear hf a; intro a hf
     refine mc_p rfl   hf (yv_extract rfl rfl) (.inl rfl) rfl rfl ?_; clear hf a; intro a hf
     refine mc_e rfl fun Q1 => ?_
     refine o_alloc hf hh Tryz.ze_35 ?_; clear hf hh a; intro B3 a w hf hh
     refine ops_end ?_
     refine then_n ⟨⟨fun _ _ => (AtE.of hh (by intro q hq; rw [List.mem_singleton.1 hq]; simp)), trivial⟩, ?_⟩
     refine mc_e rfl fun Q1 => ?_
     refine o_store hf hh Tryz.sz_35 fun w hh => ?_
     refine ops_end ?_
     refine then_n ⟨⟨fun _ _ => (AtE.of hh (by intro q hq; rw [List.mem_singleton.1 hq]; simp)), trivial⟩, ?_⟩
     refine mc_p rfl   hf (yv_assign rfl) (.inl rfl) rfl rfl ?_; clear hf a; intro a hf
     refine mc_end ?_
     refine then_n ?_
     first
       | exact ⟨B3, hh.pick [0, 2], hf.head ⟨rfl, rfl, True.intro⟩ (Keep.cons rfl (Keep.cons rfl (Keep.cons rfl (Keep.cons rfl (Keep.cons rfl (Keep.cons rfl (Keep.cons rfl (Keep.cons rfl (Keep.base)))))))))⟩
       | exact ⟨B3, hh.pick [1, 2], hf.head ⟨rfl, rfl, True.intro⟩ (Keep.cons rfl (Keep.cons rfl (Keep.cons rfl (Keep.cons rfl (Keep.cons rfl (Keep.cons rfl (Keep.cons rfl (Keep.cons rfl (Keep.base)))))))))⟩
    ·refine mc_e rfl fun Q1 => ?_
     refine o_alloc hf hh Tryz.ze_35 ?_; clear hf hh a; intro B3 a w hf hh
     refine ops_end ?_
     refine then_n ⟨⟨fun _ _ => (AtE.of hh (by intro q hq; rw [List.mem_singleton.1 hq]; simp)), trivial⟩, ?_⟩
     refine mc_e rfl fun Q1 => ?_
     refine o_call hf Tryz.en_55 rfl rfl rfl (c_Depths03 Cb _ (hh.get (Cb, .cells ts03 46) (by simp))) ?_; clear hf a; intro v a w hR hf
     obtain ⟨rfl, hx⟩ := hR; replace hh := hh.more hx; clear hx
     refine ops_end ?_
     refine then_n ⟨⟨fun _ _ => (AtE.of hh (by intro q hq; rw [List.mem_singleton.1 hq]; simp)), trivial⟩, ?_⟩
     refine mc_p rfl   hf (yv_move rfl) (.inl rfl) rfl rfl ?_; clear hf a; intro a hf
     refine mc_p rfl   hf (yv_extract rfl rfl) (.inl rfl) rfl rfl ?_; clear hf a; intro a hf
     refine mc_p rfl   hf (yv_extract rfl rfl) (.inl rfl) rfl rfl ?_; clear hf a; intro a hf
     refine mc_e rfl fun Q1 => ?_
     refine o_store hf hh Tryz.sz_35 fun w hh => ?_
     refine ops_end ?_
     refine then_n ⟨⟨fun _ _ => (AtE.of hh (by intro q hq; rw [List.mem_singleton.1 hq]; simp)), trivial⟩, ?_⟩
     refine mc_p rfl   hf (yv_assign rfl) (.inl rfl) rfl rfl ?_; clear hf a; intro a hf
     refine mc_end ?_
     refine then_n ?_
     first
       | exact ⟨B3, hh.pick [0, 2], hf.head ⟨rfl, rfl, True.intro⟩ (Keep.cons rfl (Keep.cons rfl (Keep.cons rfl (Keep.cons rfl (Keep.cons rfl (Keep.cons rfl (Keep.cons rfl (Keep.cons rfl (Keep.base)))))))))⟩
       | exact ⟨B3, hh.pick [1, 2], hf.head ⟨rfl, rfl, True.intro⟩ (Keep.cons rfl (Keep.cons rfl (Keep.cons rfl (Keep.cons rfl (Keep.cons rfl (Keep.cons rfl (Keep.cons rfl (Keep.cons rfl (Keep.base)))))))))⟩
   ·refine mc_e rfl fun Q1 => ?_
    refine o_alloc hf hh Tryz.ze_35 ?_; clear hf hh a; intro B3 a w hf hh
    refine ops_end ?_
    refine then_n ⟨⟨fun _ _ => (AtE.of hh (by intro q hq; rw [List.mem_singleton.1 hq]; simp)), trivial⟩, ?_⟩
    refine mc_e rfl fun Q1 => ?_
    refine o_call hf Tryz.en_54 rfl rfl rfl (c_card03 _) ?_; clear hf a; intro v a w hR hf
    obtain ⟨Cb, rfl, hx⟩ := hR; replace hh := hh.join hx; clear hx
    refine ops_end ?_
    refine then_n ⟨⟨fun _ _ => (AtE.of hh (by intro q hq; rw [List.mem_singleton.1 hq]; simp)), trivial⟩, ?_⟩
    refine mc_e rfl fun Q1 => ?_
    refine o_call hf Tryz.en_55 rfl rfl rfl (c_Depths03 Cb _ (hh.get (Cb, .cells ts03 46) (by simp))) ?_; clear hf a; intro v a w hR hf
    obtain ⟨rfl, hx⟩ := hR; replace hh := hh.more hx; clear hx
    refine ops_end ?_
    refine then_n ⟨⟨fun _ _ => (AtE.of hh (by intro q hq; rw [List.mem_singleton.1 hq]; simp)), trivial⟩, ?_⟩
    refine mc_p rfl   hf (yv_move rfl) (.inl rfl) rfl rfl ?_; clear hf a; intro a hf
    refine mc_p rfl   hf (yv_extract rfl rfl) (.inl rfl) rfl rfl ?_; clear hf a; intro a hf
    refine mc_p rfl   hf (yv_extract rfl rfl) (.inl rfl) rfl rfl ?_; clear hf a; intro a hf
    refine mc_e rfl fun Q1 => ?_
    refine o_store hf hh Tryz.sz_35 fun w hh => ?_
    refine ops_end ?_
    refine then_n ⟨⟨fun _ _ => (AtE.of hh (by intro q hq; rw [List.mem_singleton.1 hq]; simp)), trivial⟩, ?_⟩
    refine mc_p rfl   hf (yv_assign rfl) (.inl rfl) rfl rfl ?_; clear hf a; intro a hf
    refine mc_end ?_
    refine then_n ?_
    first
      | exact ⟨B3, hh.pick [0, 2], hf.head ⟨rfl, rfl, True.intro⟩ (Keep.cons rfl (Keep.cons rfl (Keep.cons rfl (Keep.cons rfl (Keep.cons rfl (Keep.cons rfl (Keep.cons rfl (Keep.cons rfl (Keep.base)))))))))⟩
      | exact ⟨B3, hh.pick [1, 2], hf.head ⟨rfl, rfl, True.intro⟩ (Keep.cons rfl (Keep.cons rfl (Keep.cons rfl (Keep.cons rfl (Keep.cons rfl (Keep.cons rfl (Keep.cons rfl (Keep.cons rfl (Keep.base)))))))))⟩
  ·rintro B3 a w hh hf
   refine sy_sq ?_
   refine o_call hf Tryz.en_54 rfl rfl rfl (c_card03 _) ?_; clear hf a; intro v a w hR hf
   obtain ⟨Cc, rfl, hx⟩ := hR; replace hh := hh.join hx; clear hx
   refine o_v hf hh (yv_cast (v' := .agg (prA ca03.pr (some ⟨Cc, 0, none⟩) 2)) (yv_fieldG Tryz.fg_51_0 rfl rfl) rfl) ?_; clear hf a; intro a hf
   refine o_call hf Tryz.en_12 rfl rfl rfl (c_Dist03 Cc _ (hh.at (i := 0) rfl)) ?_; clear hf a; intro v a w hR hf
   obtain ⟨rfl, hx⟩ := hR; replace hh := hh.more hx; clear hx
   refine o_v hf hh (yv_move rfl) ?_; clear hf a; intro a hf
   refine o_v hf hh (yv_extract rfl rfl) ?_; clear hf a; intro a hf
   refine o_v hf hh (yv_extract rfl rfl) ?_; clear hf a; intro a hf
   refine o_alloc hf hh Tryz.ze_35 ?_; clear hf hh a; intro B5 a w hf hh
   refine o_store hf hh Tryz.sz_35 fun w hh => ?_
   refine o_v hf hh (yv_assign rfl) ?_; clear hf a; intro a hf
   refine o_end ?_
   refine sy_seq ?_
   replace hh := hh.pick [0, 2, 3]
   replace hh : Hp u [] [(B5, .cells #[.int .i64 9591, .int .i64 10241] 35), (B3, .cells #[.int .i64 2956, .int .i64 11700] 35), (B1, .cells #[.int .i64 2, .int .i64 1, .int .i64 0, .int .i64 3] 120)] w := hh
   refine sy_quiet (C := Hp _ _ _) Tryz.follows (by kernel_rfl) (hh.drawn _) ?_
   refine oq_v hf (y_lds Tryz.ag_120 rfl) ?_; clear hf a; intro a hf
   refine oq_v hf (yv_buildS Tryz.bs_120 rfl rfl) ?_; clear hf a; intro a hf
   refine oq_v hf (yv_eqF [2, 1, 0, 3] [2, 1, 0, 3] (by kernel_rfl) rfl rfl) ?_; clear hf a; intro a hf
   refine oq_v hf (yv_move rfl) ?_; clear hf a; intro a hf
   refine oq_v hf (yv_move rfl) ?_; clear hf a; intro a hf
   refine oq_v hf (yv_bin rfl rfl rfl) ?_; clear hf a; intro a hf
   refine oq_v hf (y_pt rfl rfl) ?_; clear hf a; intro a hf
   refine oq_v hf (yv_move rfl) ?_; clear hf a; intro a hf
   refine oq_v hf (y_lds Tryz.ag_35 rfl) ?_; clear hf a; intro a hf
   refine oq_call hf Tryz.en_9 rfl rfl rfl (fun w hh => c_sp3 2956 11700 _) ?_; clear hf a; intro a hf
   refine oq_v hf (yv_eqF [2956, 11700] [2956, 11700] (by kernel_rfl) rfl rfl) ?_; clear hf a; intro a hf
   refine oq_v hf (y_pt rfl rfl) ?_; clear hf a; intro a hf
   refine oq_v hf (yv_move rfl) ?_; clear hf a; intro a hf
   refine oq_v hf (yv_move rfl) ?_; clear hf a; intro a hf
   refine oq_v hf (yv_bin rfl rfl rfl) ?_; clear hf a; intro a hf
   refine oq_v hf (y_pt rfl rfl) ?_; clear hf a; intro a hf
   refine oq_v hf (yv_move rfl) ?_; clear hf a; intro a hf
   refine oq_v hf (y_lds Tryz.ag_35 rfl) ?_; clear hf a; intro a hf
   refine oq_call hf Tryz.en_9 rfl rfl rfl (fun w hh => c_sp3 9591 10241 _) ?_; clear hf a; intro a hf
   refine oq_v hf (yv_eqF [9591, 10241] [9591, 10241] (by kernel_rfl) rfl rfl) ?_; clear hf a; intro a hf
   refine oq_v hf (y_pt rfl rfl) ?_; clear hf a; intro a hf
   refine oq_v hf (yv_move rfl) ?_; clear hf a; intro a hf
   refine oq_v hf (yv_move rfl) ?_; clear hf a; intro a hf
   refine oq_v hf (yv_bin rfl rfl rfl) ?_; clear hf a; intro a hf
   refine oq_v hf (y_pt rfl rfl) ?_; clear hf a; intro a hf
   refine oq_v hf (yv_assign rfl) ?_; clear hf a; intro a hf
   refine q_end fun w hh => ?_
   refine then_n ?_
   refine sy_ret ?_
   refine ret_r hf rfl rfl ?_
   exact ⟨rfl, hh.ext⟩
end Go.Proofs.YtccpgpnekoncoaaGreatDoor

namespace Go.PaiM
open Go Go.Sy
def lenP (f b : Int) (l : List ThD) : PrD := ⟨(f, f), (b, b), 0, 2000, 16777216, l⟩
def atT (x : Int) : ThD := ⟨(x, x), (0, 0), (0, 0), (0, 0), 0⟩
theorem len_ok {f b : Int} {l : List Int} (hf : 1 ≤ f ∧ f ≤ 50000) (hb : 1 ≤ b ∧ b ≤ 10000) (hl : l.length ≤ 12) (hx : ∀ x ∈ l, 0 ≤ x ∧ x ≤ 2000) : PrOk (lenP f b (l.map atT)) := by
  unfold lenP
  refine ⟨⟨hf.1, Int.le_refl _, hf.2⟩, ⟨hb.1, Int.le_refl _, hb.2⟩, by show (0 : Int) ≤ 0 ∧ (0 : Int) ≤ 1000; decide, by show (2000 : Int) ≤ 2000 ∧ (2000 : Int) ≤ 1073741824; decide, by show (2000 : Int) ≤ 16777216 ∧ (16777216 : Int) ≤ 1073741824; decide, by show (l.map atT).length ≤ 12; rw [List.length_map]; exact hl, fun t ht => ?_⟩
  obtain ⟨x, hx1, rfl⟩ := List.mem_map.1 ht
  have h := hx x hx1
  unfold atT
  refine ⟨?_, ?_, ?_, ?_, .inl rfl⟩ <;> dsimp only <;> omega
theorem len_pow (f b : Int) (l : List Int) : powO (lenP f b (l.map atT)) = some (f * b, f * b) := by
  have key : ∀ (p : PrD) (w : Int × Int) (l : List Int), lkF p w (l.map atT) = some w := by
    intro p w l
    induction l with
    | nil => rfl
    | cons x l ih => rw [List.map_cons, lkF, if_pos (show (atT x).far = 0 from rfl), ih]
  exact key _ _ l
theorem at_shn {x : Int} (h : 0 ≤ x ∧ x ≤ 2000) : shf (atT x) = (x, x) ∧ shn (atT x) = (x, x) := by
  have e : shf (atT x) = (x, x) := by
    unfold shf atT
    dsimp only
    rw [Prod.mk.injEq]; omega
  refine ⟨e, ?_⟩
  unfold shn
  rw [e]
  unfold nar
  dsimp only
  rw [Prod.mk.injEq]; omega
theorem div_bd {a z : Int} (hz : 0 < z) : a / z * z ≤ a ∧ a < (a / z + 1) * z := by
  have h1 := Int.ediv_mul_le a (Int.ne_of_gt hz)
  exact ⟨h1, Int.lt_ediv_add_one_mul_self a hz⟩
/-- What is so far away, with just this shift, stands still. -/
theorem len_see {f b z : Int} (l : List ThD) (hz : 2000 ≤ z ∧ z ≤ 16777216) (h0 : 0 ≤ f * b / z) (hx : f * b / z ≤ 2000) : stB (lenP f b l) (atT (f * b / z)) (f * b, f * b) = true := by
  obtain ⟨e1, e2⟩ := at_shn ⟨h0, hx⟩
  obtain ⟨d1, d2⟩ := div_bd (a := f * b) (z := z) (by omega)
  refine stB_iff.2 ⟨f * b, ⟨Int.le_refl _, Int.le_refl _⟩, ?_, ?_, ?_⟩
  · unfold okT
    rw [e2, Bool.and_eq_true]
    exact ⟨decide_eq_true (Int.le_refl _), by rfl⟩
  · rw [e2]
    unfold pws
    rw [if_pos (show (atT (f * b / z)).far = 0 from rfl)]
    show f * b / z * 2000 ≤ f * b
    exact Int.le_trans (Int.mul_le_mul_of_nonneg_left hz.1 h0) d1
  · rw [e2]
    unfold pws
    rw [if_pos (show (atT (f * b / z)).far = 0 from rfl)]
    show f * b ≤ (f * b / z + 1) * 16777216 - 1
    have := Int.mul_le_mul_of_nonneg_left hz.2 (show 0 ≤ f * b / z + 1 by omega)
    omega
/-- It is told to be so far away, or about as far. -/
theorem len_dst {f b z : Int} (l : List ThD) (hz : 2000 ≤ z ∧ z ≤ 16777216) (h0 : 0 ≤ f * b / z) (hx : f * b / z ≤ 2000) : (dst (lenP f b l) (atT (f * b / z)) (f * b, f * b)).1 ≤ z ∧ z ≤ (dst (lenP f b l) (atT (f * b / z)) (f * b, f * b)).2 := by
  obtain ⟨e1, e2⟩ := at_shn ⟨h0, hx⟩
  obtain ⟨d1, d2⟩ := div_bd (a := f * b) (z := z) (by omega)
  unfold dst nar
  rw [e2]
  dsimp only
  have h1 : f * b / (f * b / z + 1) < z := Int.ediv_lt_of_lt_mul (by omega) (by rw [Int.mul_comm z]; exact d2)
  show max 2000 (f * b / (f * b / z + 1) + 1) ≤ z ∧ z ≤ min 16777216 (if 0 < f * b / z then f * b / (f * b / z) else 16777216)
  refine ⟨by omega, ?_⟩
  split
  · rename_i hp
    have h2 : z ≤ f * b / (f * b / z) := Int.le_ediv_of_mul_le hp (by rw [Int.mul_comm]; exact d1)
    omega
  · omega
/-- A wider base has greater shifts. -/
theorem base_mono {f b b' z : Int} (hf : 0 ≤ f) (hz : 0 < z) (h : b ≤ b') : f * b / z ≤ f * b' / z := Int.ediv_le_ediv hz (Int.mul_le_mul_of_nonneg_left h hf)
end Go.PaiM

namespace Go.PaiM
open Go Go.Sy
end Go.PaiM

namespace Go.Proofs.YtccpgpnekoncoaaGreatDoor
open Go Go.Sy Go.PaiM
end Go.Proofs.YtccpgpnekoncoaaGreatDoor

namespace Go.BarM
open Go.Sy

structure Scn where
  least : Int
  most : Int
  calm : Int
structure BarD where
  slots : Int
  pitch : Int
  broken : Int
  most : Int
  scenes : List Scn

/-- How many slots of p lie between two. -/
def between (p l r : Nat) : Nat := ((List.range' (l + 1) (r - (l + 1))).filter (p.testBit ·)).length

theorem between_start (p l : Nat) : between p l (l + 1) = 0 := by simp [between]
theorem between_step (p l r : Nat) (h : l < r) : between p l (r + 1) = between p l r + (if p.testBit r then 1 else 0) := by
  unfold between
  rw [show r + 1 - (l + 1) = (r - (l + 1)) + 1 by omega, List.range'_concat, List.filter_append, List.length_append]
  rw [show l + 1 + 1 * (r - (l + 1)) = r by omega]
  cases h2 : p.testBit r <;> simp [h2]
/-- Does p take a scene by two slots? -/
def byB (b : BarD) (p : Nat) (s : Scn) (l r : Nat) : Bool :=
  decide (l < r) && p.testBit l && p.testBit r && decide (s.least ≤ b.pitch * ((r : Int) - l) ∧ b.pitch * ((r : Int) - l) ≤ s.most) && decide ((between p l r : Int) ≤ s.calm)

def okScn (s : Scn) : Bool := decide (0 ≤ s.least ∧ s.least ≤ 10000) && decide (s.least ≤ s.most ∧ s.most ≤ 10000) && decide (0 ≤ s.calm ∧ s.calm ≤ 16)
def okBar (b : BarD) : Bool :=
  decide (1 ≤ b.slots ∧ b.slots ≤ 16) && decide (1 ≤ b.pitch ∧ b.pitch ≤ 1000) && decide (0 ≤ b.broken ∧ b.broken ≤ 2 ^ b.slots.toNat - 1) && decide (0 ≤ b.most ∧ b.most ≤ 16) && decide (b.scenes.length ≤ 10) && b.scenes.all okScn

def better (p : Nat) (c x : Nat × Nat) : Bool :=
  decide (between p c.1 c.2 < between p x.1 x.2) || (decide (between p c.1 c.2 = between p x.1 x.2) && decide (x.2 - x.1 < c.2 - c.1))
def upd (b : BarD) (p : Nat) (s : Scn) (o : Option (Nat × Nat)) (c : Nat × Nat) : Option (Nat × Nat) :=
  if byB b p s c.1 c.2 then
    match o with
    | none => some c
    | some x => if better p c x then some c else some x
  else o
/-- Pairs of slots, by left, then by right. -/
def rowTo (l r : Nat) : List (Nat × Nat) := (List.range' (l + 1) (r - (l + 1))).map fun k => (l, k)
def pairsTo (S l : Nat) : List (Nat × Nat) := (List.range l).flatMap fun i => rowTo i S
def bestF (b : BarD) (p : Nat) (s : Scn) (l r : Nat) : Option (Nat × Nat) := (pairsTo b.slots.toNat l ++ rowTo l r).foldl (upd b p s) none
/-- The two slots by which a plan takes a scene. -/
def best (b : BarD) (p : Nat) (s : Scn) : Option (Nat × Nat) := (pairsTo b.slots.toNat b.slots.toNat).foldl (upd b p s) none

theorem pairsTo_step (S l : Nat) : pairsTo S (l + 1) = pairsTo S l ++ rowTo l S := by
  simp [pairsTo, List.range_succ]
/-- The scenes that a plan takes, the first k of them looked at. -/
def takenTo (b : BarD) (p : Nat) (k : Nat) : Nat := (List.range k).foldl (fun acc i => match b.scenes[i]? with | some s => if (best b p s).isSome then acc + 2 ^ i else acc | none => acc) 0
def taken (b : BarD) (p : Nat) : Nat := takenTo b p b.scenes.length
theorem takenTo_zero (b : BarD) (p : Nat) : takenTo b p 0 = 0 := rfl
theorem takenTo_step (b : BarD) (p k : Nat) (s : Scn) (h : b.scenes[k]? = some s) : takenTo b p (k + 1) = (if (best b p s).isSome then takenTo b p k + 2 ^ k else takenTo b p k) := by
  unfold takenTo; rw [List.range_succ, List.foldl_append]; simp [h]
theorem takenTo_lt (b : BarD) (p : Nat) : ∀ k, takenTo b p k < 2 ^ k
  | 0 => by simp [takenTo]
  | k + 1 => by
    have ih := takenTo_lt b p k
    have e : takenTo b p (k + 1) = (match b.scenes[k]? with | some s => if (best b p s).isSome then takenTo b p k + 2 ^ k else takenTo b p k | none => takenTo b p k) := by
      unfold takenTo; rw [List.range_succ, List.foldl_append]; rfl
    rw [e, Nat.pow_succ]
    cases b.scenes[k]? with
    | none => simp only; omega
    | some s => simp only; split <;> omega

/-- Is a number a plan of a bar? -/
def isPlan (b : BarD) (p : Nat) : Bool := decide (p < 2 ^ b.slots.toNat) && decide ((pc p : Int) ≤ b.most) && (List.range b.slots.toNat).all fun k => !(p.testBit k && b.broken.toNat.testBit k)

structure OkS (s : Scn) : Prop where
  l1 : 0 ≤ s.least
  l2 : s.least ≤ 10000
  m1 : s.least ≤ s.most
  m2 : s.most ≤ 10000
  c1 : 0 ≤ s.calm
  c2 : s.calm ≤ 16
structure Valid (b : BarD) : Prop where
  s1 : 1 ≤ b.slots
  s2 : b.slots ≤ 16
  p1 : 1 ≤ b.pitch
  p2 : b.pitch ≤ 1000
  k1 : 0 ≤ b.broken
  k2 : b.broken ≤ 2 ^ b.slots.toNat - 1
  m1 : 0 ≤ b.most
  m2 : b.most ≤ 16
  n : b.scenes.length ≤ 10
  sc : ∀ s ∈ b.scenes, OkS s
theorem okScn_iff (s : Scn) : okScn s = true ↔ OkS s := by
  simp only [okScn, Bool.and_eq_true, decide_eq_true_eq]
  exact ⟨fun h => ⟨by omega, by omega, by omega, by omega, by omega, by omega⟩, fun h => by obtain ⟨a, b, c, d, e, f⟩ := h; omega⟩
theorem okBar_iff (b : BarD) : okBar b = true ↔ Valid b := by
  simp only [okBar, Bool.and_eq_true, decide_eq_true_eq, List.all_eq_true]
  constructor
  · rintro ⟨⟨⟨⟨⟨h1, h2⟩, h3⟩, h4⟩, h5⟩, h6⟩
    exact ⟨h1.1, h1.2, h2.1, h2.2, h3.1, h3.2, h4.1, h4.2, h5, fun s hs => (okScn_iff s).1 (h6 s hs)⟩
  · intro h
    exact ⟨⟨⟨⟨⟨⟨h.s1, h.s2⟩, h.p1, h.p2⟩, h.k1, h.k2⟩, h.m1, h.m2⟩, h.n⟩, fun s hs => (okScn_iff s).2 (h.sc s hs)⟩
theorem okBar_no {b : BarD} (h : Valid b → False) : false = okBar b := by
  cases hb : okBar b
  · rfl
  · exact (h ((okBar_iff b).1 hb)).elim
theorem okBar_yes {b : BarD} (h : Valid b) : true = okBar b := ((okBar_iff b).2 h).symm
theorem isPlan_iff (b : BarD) (p : Nat) : isPlan b p = true ↔ p < 2 ^ b.slots.toNat ∧ (pc p : Int) ≤ b.most ∧ ∀ k, k < b.slots.toNat → ¬ (p.testBit k = true ∧ b.broken.toNat.testBit k = true) := by
  simp only [isPlan, Bool.and_eq_true, decide_eq_true_eq, List.all_eq_true, List.mem_range, and_assoc]
  refine and_congr_right fun _ => and_congr_right fun _ => forall_congr' fun k => imp_congr_right fun _ => ?_
  cases p.testBit k <;> cases b.broken.toNat.testBit k <;> simp
def isPlanI (b : BarD) (p : Int) : Bool := decide (0 ≤ p) && isPlan b p.toNat
theorem isPlanI_no {b : BarD} {p : Int} (h : 0 ≤ p → isPlan b p.toNat = true → False) : false = isPlanI b p := by
  cases hb : isPlanI b p
  · rfl
  · simp [isPlanI] at hb; exact (h hb.1 hb.2).elim
theorem mem_rowTo {l r : Nat} {c : Nat × Nat} (h : c ∈ rowTo l r) : c.1 = l ∧ l < c.2 ∧ c.2 < r := by
  unfold rowTo at h
  obtain ⟨k, hk, rfl⟩ := List.mem_map.1 h
  rw [List.mem_range'_1] at hk
  simp; omega
theorem mem_pairsTo {S l : Nat} {c : Nat × Nat} (h : c ∈ pairsTo S l) : c.1 < l ∧ c.1 < c.2 ∧ c.2 < S := by
  unfold pairsTo at h
  obtain ⟨i, hi, hc⟩ := List.mem_flatMap.1 h
  have := mem_rowTo hc
  simp at hi; omega
attribute [irreducible] between best bestF taken takenTo byB upd isPlanI isPlan okBar okScn
end Go.BarM

namespace Go.Proofs.YtccpgpnekoncoaaGreatDoor
open Go Go.Sy Go.BarM
theorem c44 (n lo hi : Int) (w : World) : Calls Tryz.prog 26 #[.int .i64 n, .int .i64 lo, .int .i64 hi] w (Ret fun v w' => v = .bool (decide (lo ≤ n ∧ n ≤ hi)) ∧ Ext [] w w') := by
  refine calls_of Tryz.func26 rfl rfl (fun a hf => ?_)
  have hh := Hp.init w []
  refine sy_seq ?_
  refine sy_ops ?_
  refine ops_v hf hh (yv_assign rfl) (.inl rfl) rfl rfl rfl ?_; clear hf; clear a; intro a hf
  refine ops_end ?_
  refine then_n ?_
  refine sy_seq ?_
  refine sy_ops ?_
  refine ops_v hf hh (yv_move rfl) (.inl rfl) rfl rfl rfl ?_; clear hf; clear a; intro a hf
  refine ops_v hf hh (yv_move rfl) (.inl rfl) rfl rfl rfl ?_; clear hf; clear a; intro a hf
  refine ops_v hf hh (yv_bin rfl rfl rfl) (.inl rfl) rfl rfl rfl ?_; clear hf; clear a; intro a hf
  refine ops_v hf hh (yv_move rfl) (.inl rfl) rfl rfl rfl ?_; clear hf; clear a; intro a hf
  refine guard_split hf (t := 10) rfl (fun hg2 => ?_) (fun hg2 => ?_)
  · have hG2 := hg2; try simp only [gS] at hG2
    refine ops_v hf hh (yv_move rfl) (gon rfl rfl rfl (by first | assumption | rfl | (simp; done))) rfl rfl rfl ?_; clear hf; clear a; intro a hf
    refine ops_v hf hh (yv_move rfl) (gon rfl rfl rfl (by first | assumption | rfl | (simp; done))) rfl rfl rfl ?_; clear hf; clear a; intro a hf
    refine ops_v hf hh (yv_bin rfl rfl rfl) (gon rfl rfl rfl (by first | assumption | rfl | (simp; done))) rfl rfl rfl ?_; clear hf; clear a; intro a hf
    refine ops_v hf hh (yv_pick_t rfl (by first | assumption | rfl | (simp; done)) rfl) (.inl rfl) rfl rfl rfl ?_; clear hf; clear a; intro a hf
    refine ops_v hf hh (yv_assign rfl) (.inl rfl) rfl rfl rfl ?_; clear hf; clear a; intro a hf
    refine ops_end ?_
    refine then_n ?_
    refine sy_ret ?_
    refine ret_r hf rfl rfl ?_
    refine ⟨?_, hh.ext⟩; simp [tup]; omega
  · have hG2 := hg2; try simp only [gS] at hG2
    refine ops_off hf (goff rfl rfl rfl (by first | assumption | rfl | (simp; done))) rfl rfl ?_; clear hf; clear a; intro a hf
    refine ops_off hf (goff rfl rfl rfl (by first | assumption | rfl | (simp; done))) rfl rfl ?_; clear hf; clear a; intro a hf
    refine ops_off hf (goff rfl rfl rfl (by first | assumption | rfl | (simp; done))) rfl rfl ?_; clear hf; clear a; intro a hf
    refine ops_v hf hh (yv_pick_f rfl (by first | assumption | rfl | (simp; done)) rfl) (.inl rfl) rfl rfl rfl ?_; clear hf; clear a; intro a hf
    refine ops_v hf hh (yv_assign rfl) (.inl rfl) rfl rfl rfl ?_; clear hf; clear a; intro a hf
    refine ops_end ?_
    refine then_n ?_
    refine sy_ret ?_
    refine ret_r hf rfl rfl ?_
    refine ⟨?_, hh.ext⟩; simp [tup]; omega
theorem c56n (n : Nat) (hn : n ≤ 62) (w : World) : Calls Tryz.prog 27 #[.int .i64 n] w (Ret fun v w' => v = .int .i64 (2 ^ n : Nat) ∧ Ext [] w w') := by
  refine calls_of Tryz.func27 rfl rfl (fun a hf => ?_)
  have hh := Hp.init w []
  refine sy_seq ?_
  refine sy_ops ?_
  refine ops_v hf hh (yv_assign rfl) (.inl rfl) rfl rfl rfl ?_; clear hf; clear a; intro a hf
  refine ops_end ?_
  refine then_n ?_
  refine sy_seq ?_
  refine sy_ops ?_
  refine ops_v hf hh (yv_assign rfl) (.inl rfl) rfl rfl rfl ?_; clear hf; clear a; intro a hf
  refine ops_end ?_
  refine then_n ?_
  refine sy_seq ?_
  refine sy_seq ?_
  refine sy_ops ?_
  refine ops_v hf hh (yv_assign rfl) (.inl rfl) rfl rfl rfl ?_; clear hf; clear a; intro a hf
  refine ops_end ?_
  refine then_n ?_
  refine sy_block ?_
  refine sy_loopF (σ := Nat) [3, 4, 5, 6, 7, 8, 9, 10, 11] (fun k => [(3, .int .i64 (2 ^ k : Nat)), (4, .int .i64 k)]) (fun k => k ≤ n) (fun k => n - k) (0) hf hh ?_ ?_ ?_
  · repeat' (first | exact True.intro | refine And.intro rfl ?_)
  · first | exact True.intro | omega | (simp; omega) | simp
  · rintro k a w hpr hf hh
    have hp62 : 2 ^ k ≤ 2 ^ 62 := Nat.pow_le_pow_right (by omega) (by omega)
    have hpl : k < n → 2 * 2 ^ k ≤ 2 ^ 62 := fun h => by rw [← Nat.pow_succ']; exact Nat.pow_le_pow_right (by omega) (by omega)
    refine sy_seq ?_
    refine sy_seq ?_
    refine sy_ops ?_
    refine ops_v hf hh (yv_move rfl) (.inl rfl) rfl rfl rfl ?_; clear hf; clear a; intro a hf
    refine ops_v hf hh (yv_move rfl) (.inl rfl) rfl rfl rfl ?_; clear hf; clear a; intro a hf
    refine ops_v hf hh (yv_bin rfl rfl rfl) (.inl rfl) rfl rfl rfl ?_; clear hf; clear a; intro a hf
    refine ops_end ?_
    refine then_n ?_
    refine sy_cond hf rfl (fun hg2 => ?_) (fun hg2 => ?_)
    · have hG2 := hg2; try simp only [gS] at hG2
      refine sy_skip ?_
      refine then_n ?_
      refine sy_seq ?_
      refine sy_block ?_
      refine sy_ops ?_
      refine ops_v hf hh (yv_move rfl) (.inl rfl) rfl rfl rfl ?_; clear hf; clear a; intro a hf
      first | refine ops_v hf hh (yv_mul rfl rfl (by omega) (by omega)) (.inl rfl) rfl rfl rfl ?_; clear hf; clear a; intro a hf | refine ops_v hf hh (yv_bin rfl rfl rfl) (.inl rfl) rfl rfl rfl ?_; clear hf; clear a; intro a hf
      refine ops_v hf hh (yv_assign rfl) (.inl rfl) rfl rfl rfl ?_; clear hf; clear a; intro a hf
      refine ops_end ?_
      refine blk_n ?_
      refine then_n ?_
      refine sy_ops ?_
      refine ops_v hf hh (yv_move rfl) (.inl rfl) rfl rfl rfl ?_; clear hf; clear a; intro a hf
      first | refine ops_v hf hh (yv_add rfl rfl (by omega) (by omega)) (.inl rfl) rfl rfl rfl ?_; clear hf; clear a; intro a hf | refine ops_v hf hh (yv_bin rfl rfl rfl) (.inl rfl) rfl rfl rfl ?_; clear hf; clear a; intro a hf
      refine ops_v hf hh (yv_assign rfl) (.inl rfl) rfl rfl rfl ?_; clear hf; clear a; intro a hf
      refine ops_end ?_
      refine then_n ?_
      refine ⟨k + 1, ⟨by omega, ?_, hh⟩, by omega⟩
      refine hf.head ⟨congrArg (fun z => some (Value.int IntKind.i64 z)) ?_, rfl, True.intro⟩ (Keep.cons rfl (Keep.cons rfl (Keep.cons rfl (Keep.cons rfl (Keep.cons rfl (Keep.cons rfl (Keep.cons rfl (Keep.cons rfl (Keep.cons rfl (Keep.app rfl (Keep.rm rfl Keep.base)))))))))))
      rw [Nat.pow_succ]; push_cast; omega
    · have hG2 := hg2; try simp only [gS] at hG2
      refine sy_exit ?_
      refine then_e ?_
      refine then_e ?_
      refine blk_e ?_
      refine then_n ?_
      refine sy_seq ?_
      refine sy_ops ?_
      refine ops_v hf hh (yv_move rfl) (.inl rfl) rfl rfl rfl ?_; clear hf; clear a; intro a hf
      refine ops_v hf hh (yv_assign rfl) (.inl rfl) rfl rfl rfl ?_; clear hf; clear a; intro a hf
      refine ops_end ?_
      refine then_n ?_
      refine sy_ret ?_
      refine ret_r hf rfl rfl ?_
      refine ⟨?_, hh.ext⟩
      have : k = n := by omega
      subst this; rfl
theorem c56 (n : Int) (h0 : 0 ≤ n) (hn : n ≤ 62) (w : World) : Calls Tryz.prog 27 #[.int .i64 n] w (Ret fun v w' => v = .int .i64 (2 ^ n.toNat : Nat) ∧ Ext [] w w') := by
  obtain ⟨m, rfl⟩ := Int.eq_ofNat_of_zero_le h0
  exact c56n m (by omega) w
end Go.Proofs.YtccpgpnekoncoaaGreatDoor

namespace Go.Proofs.YtccpgpnekoncoaaGreatDoor
open Go Go.Sy Go.BarM
/-- A bar, as a call is handed it. -/
abbrev barV (b : BarD) (sa : Option Addr) (sc : Nat) : Value := .agg #[.int .i64 b.slots, .int .i64 b.pitch, .int .i64 b.broken, .int .i64 b.most, .slice sa b.scenes.length sc]
/-- The scenes lie in memory. -/
def ScAt (w : World) (sa : Option Addr) (l : List Scn) : Prop :=
  ∀ i s, l[i]? = some s → ∃ blk off c T fr, sa = some ⟨blk, off, none⟩ ∧ w.heap[blk]? = some (.cells c T fr) ∧ cellsAt c (off + i * 3) 3 = some [.int .i64 s.least, .int .i64 s.most, .int .i64 s.calm]
theorem ScAt.ext {w w' : World} {sa : Option Addr} {l : List Scn} (h : ScAt w sa l) (e : Ext [] w w') : ScAt w' sa l := fun i s hi =>
  let ⟨blk, off, c, T, fr, h1, h2, h3⟩ := h i s hi
  ⟨blk, off, c, T, fr, h1, e.get h2, h3⟩
theorem len_of {l : List Scn} {i : Nat} {s : Scn} (h : l[i]? = some s) : i < l.length := (List.getElem?_eq_some_iff.1 h).1
theorem scn_of {l : List Scn} {i : Nat} (h : i < l.length) : ∃ s, l[i]? = some s := ⟨l[i], by simp [h]⟩
end Go.Proofs.YtccpgpnekoncoaaGreatDoor

namespace Go.Proofs.YtccpgpnekoncoaaGreatDoor
open Go Go.Sy Go.BarM
theorem shl_bd {n : Int} (h1 : 1 ≤ n) (h2 : n ≤ 16) : 2 ≤ ((2 ^ n.toNat : Nat) : Int) ∧ ((2 ^ n.toNat : Nat) : Int) ≤ 65536 := by
  have a : 2 ^ 1 ≤ 2 ^ n.toNat := Nat.pow_le_pow_right (by omega) (by omega)
  have b : 2 ^ n.toNat ≤ 2 ^ 16 := Nat.pow_le_pow_right (by omega) (by omega)
  omega
theorem cast_pow (n : Nat) : ((2 ^ n : Nat) : Int) = (2 : Int) ^ n := by push_cast; rfl
theorem testBit_lt {p k n : Nat} (h : p < 2 ^ n) (hk : n ≤ k) : p.testBit k = false := Nat.testBit_lt_two_pow (Nat.lt_of_lt_of_le h (Nat.pow_le_pow_right (by omega) hk))
theorem c28 (b : BarD) (sa : Option Addr) (sc : Nat) (w : World) (hS : ScAt w sa b.scenes) :
    Calls Tryz.prog 7 #[barV b sa sc] w (Ret fun v w' => v = .bool (okBar b) ∧ Ext [] w w') := by
  refine calls_of Tryz.func7 rfl rfl (fun a hf => ?_)
  have hh := Hp.init w []
  have hpw := @shl_bd b.slots
  have hpw2 := cast_pow b.slots.toNat
  refine sy_seq ?_
  refine sy_ops ?_
  refine ops_box hf hh rfl (.inl rfl) rfl ?_; clear hf hh; clear a; intro B1 a w hf hh
  refine ops_v hf hh (yv_assign rfl) (.inl rfl) rfl rfl rfl ?_; clear hf; clear a; intro a hf
  refine ops_end ?_
  refine then_n ?_
  refine sy_seq ?_
  refine sy_seq ?_
  refine sy_quiet (C := Hp _ _ _) Tryz.follows (by kernel_rfl) (hh.drawn _) ?_
  refine q_v hf (yv_fieldAddr Tryz.fo_24_0 rfl) (.inl rfl) rfl rfl ?_; clear hf; clear a; intro a hf
  refine q_v hf (yv_load Tryz.sc_3 rfl (fun _ h => by first | exact h.at (i := 0) rfl | exact h.at (i := 1) rfl | exact h.at (i := 2) rfl | exact h.at (i := 3) rfl | exact h.old hb) (by first | rfl | assumption)) (.inl rfl) rfl rfl ?_; clear hf; clear a; intro a hf
  refine q_callE hf Tryz.en_26 rfl rfl rfl (.inl rfl) rfl (fun w hh => c44 _ _ _ _) ?_; clear hf; clear a; intro a hf
  refine q_v hf (yv_not rfl) (.inl rfl) rfl rfl ?_; clear hf; clear a; intro a hf
  refine q_v hf (yv_move rfl) (.inl rfl) rfl rfl ?_; clear hf; clear a; intro a hf
  refine guard_splitq hf (t := 9) rfl (fun hg2 => ?_) (fun hg2 => ?_)
  · have hG2 := hg2; try simp only [gS] at hG2
    refine q_off hf (goff rfl rfl rfl (by first | assumption | rfl | (simp; done))) rfl rfl ?_; clear hf; clear a; intro a hf
    refine q_off hf (goff rfl rfl rfl (by first | assumption | rfl | (simp; done))) rfl rfl ?_; clear hf; clear a; intro a hf
    refine q_off hf (goff rfl rfl rfl (by first | assumption | rfl | (simp; done))) rfl rfl ?_; clear hf; clear a; intro a hf
    refine q_off hf (goff rfl rfl rfl (by first | assumption | rfl | (simp; done))) rfl rfl ?_; clear hf; clear a; intro a hf
    refine q_v hf (yv_pick_t rfl (by first | assumption | rfl | (simp; done)) rfl) (.inl rfl) rfl rfl ?_; clear hf; clear a; intro a hf
    refine q_v hf (yv_move rfl) (.inl rfl) rfl rfl ?_; clear hf; clear a; intro a hf
    refine q_off hf (goff rfl rfl rfl (by first | assumption | rfl | (simp; done))) rfl rfl ?_; clear hf; clear a; intro a hf
    refine q_off hf (goff rfl rfl rfl (by first | assumption | rfl | (simp; done))) rfl rfl ?_; clear hf; clear a; intro a hf
    refine q_off hf (goff rfl rfl rfl (by first | assumption | rfl | (simp; done))) rfl rfl ?_; clear hf; clear a; intro a hf
    refine q_off hf (goff rfl rfl rfl (by first | assumption | rfl | (simp; done))) rfl rfl ?_; clear hf; clear a; intro a hf
    refine q_off hf (goff rfl rfl rfl (by first | assumption | rfl | (simp; done))) rfl rfl ?_; clear hf; clear a; intro a hf
    refine q_off hf (goff rfl rfl rfl (by first | assumption | rfl | (simp; done))) rfl rfl ?_; clear hf; clear a; intro a hf
    refine q_off hf (goff rfl rfl rfl (by first | assumption | rfl | (simp; done))) rfl rfl ?_; clear hf; clear a; intro a hf
    refine q_off hf (goff rfl rfl rfl (by first | assumption | rfl | (simp; done))) rfl rfl ?_; clear hf; clear a; intro a hf
    refine q_v hf (yv_pick_t rfl (by first | assumption | rfl | (simp; done)) rfl) (.inl rfl) rfl rfl ?_; clear hf; clear a; intro a hf
    refine q_v hf (yv_move rfl) (.inl rfl) rfl rfl ?_; clear hf; clear a; intro a hf
    refine q_off hf (goff rfl rfl rfl (by first | assumption | rfl | (simp; done))) rfl rfl ?_; clear hf; clear a; intro a hf
    refine q_off hf (goff rfl rfl rfl (by first | assumption | rfl | (simp; done))) rfl rfl ?_; clear hf; clear a; intro a hf
    refine q_off hf (goff rfl rfl rfl (by first | assumption | rfl | (simp; done))) rfl rfl ?_; clear hf; clear a; intro a hf
    refine q_off hf (goff rfl rfl rfl (by first | assumption | rfl | (simp; done))) rfl rfl ?_; clear hf; clear a; intro a hf
    refine q_v hf (yv_pick_t rfl (by first | assumption | rfl | (simp; done)) rfl) (.inl rfl) rfl rfl ?_; clear hf; clear a; intro a hf
    refine q_v hf (yv_move rfl) (.inl rfl) rfl rfl ?_; clear hf; clear a; intro a hf
    refine q_off hf (goff rfl rfl rfl (by first | assumption | rfl | (simp; done))) rfl rfl ?_; clear hf; clear a; intro a hf
    refine q_off hf (goff rfl rfl rfl (by first | assumption | rfl | (simp; done))) rfl rfl ?_; clear hf; clear a; intro a hf
    refine q_off hf (goff rfl rfl rfl (by first | assumption | rfl | (simp; done))) rfl rfl ?_; clear hf; clear a; intro a hf
    refine q_off hf (goff rfl rfl rfl (by first | assumption | rfl | (simp; done))) rfl rfl ?_; clear hf; clear a; intro a hf
    refine q_v hf (yv_pick_t rfl (by first | assumption | rfl | (simp; done)) rfl) (.inl rfl) rfl rfl ?_; clear hf; clear a; intro a hf
    refine q_end fun w hh => ?_
    refine then_n ?_
    refine sy_ct hf rfl (by first | assumption | rfl | (simp; done)) ?_
    refine sy_seq ?_
    refine sy_ops ?_
    refine ops_v hf hh (yv_assign rfl) (.inl rfl) rfl rfl rfl ?_; clear hf; clear a; intro a hf
    refine ops_end ?_
    refine then_n ?_
    refine sy_ret ?_
    refine then_r ?_
    refine ret_r hf rfl rfl ?_
    refine ⟨congrArg Value.bool ?_, hh.ext⟩
    first
      | (refine okBar_no fun hV => ?_
         have h1 := hV.s1; have h2 := hV.s2; have h3 := hV.p1; have h4 := hV.p2; have h5 := hV.k1; have h6 := hV.k2; have h7 := hV.m1; have h8 := hV.m2; have h9 := hV.n
         have h10 := hpw h1 h2
         omega)
      | (refine okBar_no fun hV => ?_
         have hO := hV.sc s hms
         have h1 := hO.l1; have h2 := hO.l2; have h3 := hO.m1; have h4 := hO.m2; have h5 := hO.c1; have h6 := hO.c2
         omega)
      | (exact okBar_yes ⟨by omega, by omega, by omega, by omega, by omega, by omega, by omega, by omega, by omega, fun s hs => by
           obtain ⟨j, hj⟩ := List.getElem?_of_mem hs
           exact hq2 j s (by have := len_of hj; omega) hj⟩)
  · have hG2 := hg2; try simp only [gS] at hG2
    refine q_v hf (yv_fieldAddr Tryz.fo_24_1 rfl) (gon rfl rfl rfl (by first | assumption | rfl | (simp; done))) rfl rfl ?_; clear hf; clear a; intro a hf
    refine q_v hf (yv_load Tryz.sc_3 rfl (fun _ h => by first | exact h.at (i := 0) rfl | exact h.at (i := 1) rfl | exact h.at (i := 2) rfl | exact h.at (i := 3) rfl | exact h.old hb) (by first | rfl | assumption)) (gon rfl rfl rfl (by first | assumption | rfl | (simp; done))) rfl rfl ?_; clear hf; clear a; intro a hf
    refine q_callE hf Tryz.en_26 rfl rfl rfl (gon rfl rfl rfl (by first | assumption | rfl | (simp; done))) rfl (fun w hh => c44 _ _ _ _) ?_; clear hf; clear a; intro a hf
    refine q_v hf (yv_not rfl) (gon rfl rfl rfl (by first | assumption | rfl | (simp; done))) rfl rfl ?_; clear hf; clear a; intro a hf
    refine q_v hf (yv_pick_f rfl (by first | assumption | rfl | (simp; done)) rfl) (.inl rfl) rfl rfl ?_; clear hf; clear a; intro a hf
    refine q_v hf (yv_move rfl) (.inl rfl) rfl rfl ?_; clear hf; clear a; intro a hf
    refine guard_splitq hf (t := 15) rfl (fun hg4 => ?_) (fun hg4 => ?_)
    · have hG4 := hg4; try simp only [gS] at hG4
      refine q_off hf (goff rfl rfl rfl (by first | assumption | rfl | (simp; done))) rfl rfl ?_; clear hf; clear a; intro a hf
      refine q_off hf (goff rfl rfl rfl (by first | assumption | rfl | (simp; done))) rfl rfl ?_; clear hf; clear a; intro a hf
      refine q_off hf (goff rfl rfl rfl (by first | assumption | rfl | (simp; done))) rfl rfl ?_; clear hf; clear a; intro a hf
      refine q_off hf (goff rfl rfl rfl (by first | assumption | rfl | (simp; done))) rfl rfl ?_; clear hf; clear a; intro a hf
      refine q_off hf (goff rfl rfl rfl (by first | assumption | rfl | (simp; done))) rfl rfl ?_; clear hf; clear a; intro a hf
      refine q_off hf (goff rfl rfl rfl (by first | assumption | rfl | (simp; done))) rfl rfl ?_; clear hf; clear a; intro a hf
      refine q_off hf (goff rfl rfl rfl (by first | assumption | rfl | (simp; done))) rfl rfl ?_; clear hf; clear a; intro a hf
      refine q_off hf (goff rfl rfl rfl (by first | assumption | rfl | (simp; done))) rfl rfl ?_; clear hf; clear a; intro a hf
      refine q_v hf (yv_pick_t rfl (by first | assumption | rfl | (simp; done)) rfl) (.inl rfl) rfl rfl ?_; clear hf; clear a; intro a hf
      refine q_v hf (yv_move rfl) (.inl rfl) rfl rfl ?_; clear hf; clear a; intro a hf
      refine q_off hf (goff rfl rfl rfl (by first | assumption | rfl | (simp; done))) rfl rfl ?_; clear hf; clear a; intro a hf
      refine q_off hf (goff rfl rfl rfl (by first | assumption | rfl | (simp; done))) rfl rfl ?_; clear hf; clear a; intro a hf
      refine q_off hf (goff rfl rfl rfl (by first | assumption | rfl | (simp; done))) rfl rfl ?_; clear hf; clear a; intro a hf
      refine q_off hf (goff rfl rfl rfl (by first | assumption | rfl | (simp; done))) rfl rfl ?_; clear hf; clear a; intro a hf
      refine q_v hf (yv_pick_t rfl (by first | assumption | rfl | (simp; done)) rfl) (.inl rfl) rfl rfl ?_; clear hf; clear a; intro a hf
      refine q_v hf (yv_move rfl) (.inl rfl) rfl rfl ?_; clear hf; clear a; intro a hf
      refine q_off hf (goff rfl rfl rfl (by first | assumption | rfl | (simp; done))) rfl rfl ?_; clear hf; clear a; intro a hf
      refine q_off hf (goff rfl rfl rfl (by first | assumption | rfl | (simp; done))) rfl rfl ?_; clear hf; clear a; intro a hf
      refine q_off hf (goff rfl rfl rfl (by first | assumption | rfl | (simp; done))) rfl rfl ?_; clear hf; clear a; intro a hf
      refine q_off hf (goff rfl rfl rfl (by first | assumption | rfl | (simp; done))) rfl rfl ?_; clear hf; clear a; intro a hf
      refine q_v hf (yv_pick_t rfl (by first | assumption | rfl | (simp; done)) rfl) (.inl rfl) rfl rfl ?_; clear hf; clear a; intro a hf
      refine q_end fun w hh => ?_
      refine then_n ?_
      refine sy_ct hf rfl (by first | assumption | rfl | (simp; done)) ?_
      refine sy_seq ?_
      refine sy_ops ?_
      refine ops_v hf hh (yv_assign rfl) (.inl rfl) rfl rfl rfl ?_; clear hf; clear a; intro a hf
      refine ops_end ?_
      refine then_n ?_
      refine sy_ret ?_
      refine then_r ?_
      refine ret_r hf rfl rfl ?_
      refine ⟨congrArg Value.bool ?_, hh.ext⟩
      first
        | (refine okBar_no fun hV => ?_
           have h1 := hV.s1; have h2 := hV.s2; have h3 := hV.p1; have h4 := hV.p2; have h5 := hV.k1; have h6 := hV.k2; have h7 := hV.m1; have h8 := hV.m2; have h9 := hV.n
           have h10 := hpw h1 h2
           omega)
        | (refine okBar_no fun hV => ?_
           have hO := hV.sc s hms
           have h1 := hO.l1; have h2 := hO.l2; have h3 := hO.m1; have h4 := hO.m2; have h5 := hO.c1; have h6 := hO.c2
           omega)
        | (exact okBar_yes ⟨by omega, by omega, by omega, by omega, by omega, by omega, by omega, by omega, by omega, fun s hs => by
             obtain ⟨j, hj⟩ := List.getElem?_of_mem hs
             exact hq2 j s (by have := len_of hj; omega) hj⟩)
    · have hG4 := hg4; try simp only [gS] at hG4
      refine q_v hf (yv_fieldAddr Tryz.fo_24_2 rfl) (gon rfl rfl rfl (by first | assumption | rfl | (simp; done))) rfl rfl ?_; clear hf; clear a; intro a hf
      refine q_v hf (yv_load Tryz.sc_3 rfl (fun _ h => by first | exact h.at (i := 0) rfl | exact h.at (i := 1) rfl | exact h.at (i := 2) rfl | exact h.at (i := 3) rfl | exact h.old hb) (by first | rfl | assumption)) (gon rfl rfl rfl (by first | assumption | rfl | (simp; done))) rfl rfl ?_; clear hf; clear a; intro a hf
      refine q_v hf (yv_fieldAddr Tryz.fo_24_0 rfl) (gon rfl rfl rfl (by first | assumption | rfl | (simp; done))) rfl rfl ?_; clear hf; clear a; intro a hf
      refine q_v hf (yv_load Tryz.sc_3 rfl (fun _ h => by first | exact h.at (i := 0) rfl | exact h.at (i := 1) rfl | exact h.at (i := 2) rfl | exact h.at (i := 3) rfl | exact h.old hb) (by first | rfl | assumption)) (gon rfl rfl rfl (by first | assumption | rfl | (simp; done))) rfl rfl ?_; clear hf; clear a; intro a hf
      refine q_callE hf Tryz.en_27 rfl rfl rfl (gon rfl rfl rfl (by first | assumption | rfl | (simp; done))) rfl (fun w hh => c56 _ (by omega) (by omega) _) ?_; clear hf; clear a; intro a hf
      first | refine q_v hf (yv_sub rfl rfl (by omega) (by omega)) (gon rfl rfl rfl (by first | assumption | rfl | (simp; done))) rfl rfl ?_; clear hf; clear a; intro a hf | refine q_v hf (yv_bin rfl rfl rfl) (gon rfl rfl rfl (by first | assumption | rfl | (simp; done))) rfl rfl ?_; clear hf; clear a; intro a hf
      refine q_callE hf Tryz.en_26 rfl rfl rfl (gon rfl rfl rfl (by first | assumption | rfl | (simp; done))) rfl (fun w hh => c44 _ _ _ _) ?_; clear hf; clear a; intro a hf
      refine q_v hf (yv_not rfl) (gon rfl rfl rfl (by first | assumption | rfl | (simp; done))) rfl rfl ?_; clear hf; clear a; intro a hf
      refine q_v hf (yv_pick_f rfl (by first | assumption | rfl | (simp; done)) rfl) (.inl rfl) rfl rfl ?_; clear hf; clear a; intro a hf
      refine q_v hf (yv_move rfl) (.inl rfl) rfl rfl ?_; clear hf; clear a; intro a hf
      refine guard_splitq hf (t := 25) rfl (fun hg7 => ?_) (fun hg7 => ?_)
      · have hG7 := hg7; try simp only [gS] at hG7
        refine q_off hf (goff rfl rfl rfl (by first | assumption | rfl | (simp; done))) rfl rfl ?_; clear hf; clear a; intro a hf
        refine q_off hf (goff rfl rfl rfl (by first | assumption | rfl | (simp; done))) rfl rfl ?_; clear hf; clear a; intro a hf
        refine q_off hf (goff rfl rfl rfl (by first | assumption | rfl | (simp; done))) rfl rfl ?_; clear hf; clear a; intro a hf
        refine q_off hf (goff rfl rfl rfl (by first | assumption | rfl | (simp; done))) rfl rfl ?_; clear hf; clear a; intro a hf
        refine q_v hf (yv_pick_t rfl (by first | assumption | rfl | (simp; done)) rfl) (.inl rfl) rfl rfl ?_; clear hf; clear a; intro a hf
        refine q_v hf (yv_move rfl) (.inl rfl) rfl rfl ?_; clear hf; clear a; intro a hf
        refine q_off hf (goff rfl rfl rfl (by first | assumption | rfl | (simp; done))) rfl rfl ?_; clear hf; clear a; intro a hf
        refine q_off hf (goff rfl rfl rfl (by first | assumption | rfl | (simp; done))) rfl rfl ?_; clear hf; clear a; intro a hf
        refine q_off hf (goff rfl rfl rfl (by first | assumption | rfl | (simp; done))) rfl rfl ?_; clear hf; clear a; intro a hf
        refine q_off hf (goff rfl rfl rfl (by first | assumption | rfl | (simp; done))) rfl rfl ?_; clear hf; clear a; intro a hf
        refine q_v hf (yv_pick_t rfl (by first | assumption | rfl | (simp; done)) rfl) (.inl rfl) rfl rfl ?_; clear hf; clear a; intro a hf
        refine q_end fun w hh => ?_
        refine then_n ?_
        refine sy_ct hf rfl (by first | assumption | rfl | (simp; done)) ?_
        refine sy_seq ?_
        refine sy_ops ?_
        refine ops_v hf hh (yv_assign rfl) (.inl rfl) rfl rfl rfl ?_; clear hf; clear a; intro a hf
        refine ops_end ?_
        refine then_n ?_
        refine sy_ret ?_
        refine then_r ?_
        refine ret_r hf rfl rfl ?_
        refine ⟨congrArg Value.bool ?_, hh.ext⟩
        first
          | (refine okBar_no fun hV => ?_
             have h1 := hV.s1; have h2 := hV.s2; have h3 := hV.p1; have h4 := hV.p2; have h5 := hV.k1; have h6 := hV.k2; have h7 := hV.m1; have h8 := hV.m2; have h9 := hV.n
             have h10 := hpw h1 h2
             omega)
          | (refine okBar_no fun hV => ?_
             have hO := hV.sc s hms
             have h1 := hO.l1; have h2 := hO.l2; have h3 := hO.m1; have h4 := hO.m2; have h5 := hO.c1; have h6 := hO.c2
             omega)
          | (exact okBar_yes ⟨by omega, by omega, by omega, by omega, by omega, by omega, by omega, by omega, by omega, fun s hs => by
               obtain ⟨j, hj⟩ := List.getElem?_of_mem hs
               exact hq2 j s (by have := len_of hj; omega) hj⟩)
      · have hG7 := hg7; try simp only [gS] at hG7
        refine q_v hf (yv_fieldAddr Tryz.fo_24_3 rfl) (gon rfl rfl rfl (by first | assumption | rfl | (simp; done))) rfl rfl ?_; clear hf; clear a; intro a hf
        refine q_v hf (yv_load Tryz.sc_3 rfl (fun _ h => by first | exact h.at (i := 0) rfl | exact h.at (i := 1) rfl | exact h.at (i := 2) rfl | exact h.at (i := 3) rfl | exact h.old hb) (by first | rfl | assumption)) (gon rfl rfl rfl (by first | assumption | rfl | (simp; done))) rfl rfl ?_; clear hf; clear a; intro a hf
        refine q_callE hf Tryz.en_26 rfl rfl rfl (gon rfl rfl rfl (by first | assumption | rfl | (simp; done))) rfl (fun w hh => c44 _ _ _ _) ?_; clear hf; clear a; intro a hf
        refine q_v hf (yv_not rfl) (gon rfl rfl rfl (by first | assumption | rfl | (simp; done))) rfl rfl ?_; clear hf; clear a; intro a hf
        refine q_v hf (yv_pick_f rfl (by first | assumption | rfl | (simp; done)) rfl) (.inl rfl) rfl rfl ?_; clear hf; clear a; intro a hf
        refine q_v hf (yv_move rfl) (.inl rfl) rfl rfl ?_; clear hf; clear a; intro a hf
        refine guard_splitq hf (t := 31) rfl (fun hg9 => ?_) (fun hg9 => ?_)
        · have hG9 := hg9; try simp only [gS] at hG9
          refine q_off hf (goff rfl rfl rfl (by first | assumption | rfl | (simp; done))) rfl rfl ?_; clear hf; clear a; intro a hf
          refine q_off hf (goff rfl rfl rfl (by first | assumption | rfl | (simp; done))) rfl rfl ?_; clear hf; clear a; intro a hf
          refine q_off hf (goff rfl rfl rfl (by first | assumption | rfl | (simp; done))) rfl rfl ?_; clear hf; clear a; intro a hf
          refine q_off hf (goff rfl rfl rfl (by first | assumption | rfl | (simp; done))) rfl rfl ?_; clear hf; clear a; intro a hf
          refine q_v hf (yv_pick_t rfl (by first | assumption | rfl | (simp; done)) rfl) (.inl rfl) rfl rfl ?_; clear hf; clear a; intro a hf
          refine q_end fun w hh => ?_
          refine then_n ?_
          refine sy_ct hf rfl (by first | assumption | rfl | (simp; done)) ?_
          refine sy_seq ?_
          refine sy_ops ?_
          refine ops_v hf hh (yv_assign rfl) (.inl rfl) rfl rfl rfl ?_; clear hf; clear a; intro a hf
          refine ops_end ?_
          refine then_n ?_
          refine sy_ret ?_
          refine then_r ?_
          refine ret_r hf rfl rfl ?_
          refine ⟨congrArg Value.bool ?_, hh.ext⟩
          first
            | (refine okBar_no fun hV => ?_
               have h1 := hV.s1; have h2 := hV.s2; have h3 := hV.p1; have h4 := hV.p2; have h5 := hV.k1; have h6 := hV.k2; have h7 := hV.m1; have h8 := hV.m2; have h9 := hV.n
               have h10 := hpw h1 h2
               omega)
            | (refine okBar_no fun hV => ?_
               have hO := hV.sc s hms
               have h1 := hO.l1; have h2 := hO.l2; have h3 := hO.m1; have h4 := hO.m2; have h5 := hO.c1; have h6 := hO.c2
               omega)
            | (exact okBar_yes ⟨by omega, by omega, by omega, by omega, by omega, by omega, by omega, by omega, by omega, fun s hs => by
                 obtain ⟨j, hj⟩ := List.getElem?_of_mem hs
                 exact hq2 j s (by have := len_of hj; omega) hj⟩)
        · have hG9 := hg9; try simp only [gS] at hG9
          refine q_v hf (yv_fieldAddr Tryz.fo_24_4 rfl) (gon rfl rfl rfl (by first | assumption | rfl | (simp; done))) rfl rfl ?_; clear hf; clear a; intro a hf
          refine q_v hf (yv_load Tryz.sc_22 rfl (fun _ h => by first | exact h.at (i := 0) rfl | exact h.at (i := 1) rfl | exact h.at (i := 2) rfl | exact h.at (i := 3) rfl | exact h.old hb) (by first | rfl | assumption)) (gon rfl rfl rfl (by first | assumption | rfl | (simp; done))) rfl rfl ?_; clear hf; clear a; intro a hf
          refine q_v hf (yv_len Tryz.se_22 rfl) (gon rfl rfl rfl (by first | assumption | rfl | (simp; done))) rfl rfl ?_; clear hf; clear a; intro a hf
          refine q_v hf (yv_bin rfl rfl rfl) (gon rfl rfl rfl (by first | assumption | rfl | (simp; done))) rfl rfl ?_; clear hf; clear a; intro a hf
          refine q_v hf (yv_pick_f rfl (by first | assumption | rfl | (simp; done)) rfl) (.inl rfl) rfl rfl ?_; clear hf; clear a; intro a hf
          refine q_end fun w hh => ?_
          refine then_n ?_
          refine sy_cond hf rfl (fun hg11 => ?_) (fun hg11 => ?_)
          · have hG11 := hg11; try simp only [gS] at hG11
            refine sy_seq ?_
            refine sy_ops ?_
            refine ops_v hf hh (yv_assign rfl) (.inl rfl) rfl rfl rfl ?_; clear hf; clear a; intro a hf
            refine ops_end ?_
            refine then_n ?_
            refine sy_ret ?_
            refine then_r ?_
            refine ret_r hf rfl rfl ?_
            refine ⟨congrArg Value.bool ?_, hh.ext⟩
            first
              | (refine okBar_no fun hV => ?_
                 have h1 := hV.s1; have h2 := hV.s2; have h3 := hV.p1; have h4 := hV.p2; have h5 := hV.k1; have h6 := hV.k2; have h7 := hV.m1; have h8 := hV.m2; have h9 := hV.n
                 have h10 := hpw h1 h2
                 omega)
              | (refine okBar_no fun hV => ?_
                 have hO := hV.sc s hms
                 have h1 := hO.l1; have h2 := hO.l2; have h3 := hO.m1; have h4 := hO.m2; have h5 := hO.c1; have h6 := hO.c2
                 omega)
              | (exact okBar_yes ⟨by omega, by omega, by omega, by omega, by omega, by omega, by omega, by omega, by omega, fun s hs => by
                   obtain ⟨j, hj⟩ := List.getElem?_of_mem hs
                   exact hq2 j s (by have := len_of hj; omega) hj⟩)
          · have hG11 := hg11; try simp only [gS] at hG11
            refine sy_skip ?_
            refine then_n ?_
            refine sy_seq ?_
            refine sy_seq ?_
            refine sy_ops ?_
            refine ops_v hf hh (yv_assign rfl) (.inl rfl) rfl rfl rfl ?_; clear hf; clear a; intro a hf
            refine ops_end ?_
            refine then_n ?_
            refine sy_block ?_
            refine sy_loopF (σ := Nat) [2, 3, 4, 37, 38, 39, 40, 41, 42, 43, 44, 45, 46, 47, 48, 49, 50, 51, 52, 53, 54, 55, 56, 57, 58, 59, 60, 61, 62, 63, 64, 65, 66] (fun k => [(3, .int .i64 k)]) (fun k => k ≤ b.scenes.length ∧ ∀ j s, j < k → b.scenes[j]? = some s → OkS s) (fun k => b.scenes.length - k) (0) hf hh ?_ ?_ ?_
            · repeat' (first | exact True.intro | refine And.intro rfl ?_)
            · exact ⟨by omega, fun j s hj => by omega⟩
            · rintro k a w ⟨hq1, hq2⟩ hf hh
              refine sy_seq ?_
              refine sy_seq ?_
              refine sy_ops ?_
              refine ops_v hf hh (yv_move rfl) (.inl rfl) rfl rfl rfl ?_; clear hf; clear a; intro a hf
              refine ops_v hf hh (yv_fieldAddr Tryz.fo_24_4 rfl) (.inl rfl) rfl rfl rfl ?_; clear hf; clear a; intro a hf
              refine ops_v hf hh (yv_load Tryz.sc_22 rfl (fun _ h => by first | exact h.at (i := 0) rfl | exact h.at (i := 1) rfl | exact h.at (i := 2) rfl | exact h.at (i := 3) rfl | exact h.old hb) (by first | rfl | assumption)) (.inl rfl) rfl rfl rfl ?_; clear hf; clear a; intro a hf
              refine ops_v hf hh (yv_len Tryz.se_22 rfl) (.inl rfl) rfl rfl rfl ?_; clear hf; clear a; intro a hf
              refine ops_v hf hh (yv_bin rfl rfl rfl) (.inl rfl) rfl rfl rfl ?_; clear hf; clear a; intro a hf
              refine ops_end ?_
              refine then_n ?_
              refine sy_cond hf rfl (fun hg13 => ?_) (fun hg13 => ?_)
              · have hG13 := hg13; try simp only [gS] at hG13
                refine sy_skip ?_
                refine then_n ?_
                refine sy_seq ?_
                refine sy_block ?_
                refine sy_seq ?_
                obtain ⟨s, hs⟩ := scn_of (l := b.scenes) (i := k) (by omega)
                have hms := List.mem_of_getElem? hs
                obtain ⟨blk, off, c, T, fr, e, hb, hc⟩ := hS k s hs; cases e
                refine sy_ops ?_
                refine ops_v hf hh (yv_fieldAddr Tryz.fo_24_4 rfl) (.inl rfl) rfl rfl rfl ?_; clear hf; clear a; intro a hf
                refine ops_v hf hh (yv_load Tryz.sc_22 rfl (fun _ h => by first | exact h.at (i := 0) rfl | exact h.at (i := 1) rfl | exact h.at (i := 2) rfl | exact h.at (i := 3) rfl | exact h.old hb) (by first | rfl | assumption)) (.inl rfl) rfl rfl rfl ?_; clear hf; clear a; intro a hf
                refine ops_v hf hh (yv_move rfl) (.inl rfl) rfl rfl rfl ?_; clear hf; clear a; intro a hf
                refine ops_v hf hh (yv_indexAddr Tryz.se_22 rfl rfl (by omega) (by omega)) (.inl rfl) rfl rfl rfl ?_; clear hf; clear a; intro a hf
                refine ops_v hf hh (yv_loads Tryz.ag_33 rfl (fun _ h => by first | exact h.at (i := 0) rfl | exact h.at (i := 1) rfl | exact h.at (i := 2) rfl | exact h.at (i := 3) rfl | exact h.old hb) (by first | assumption | rfl)) (.inl rfl) rfl rfl rfl ?_; clear hf; clear a; intro a hf
                refine ops_alloc hf hh Tryz.ze_33 (.inl rfl) rfl ?_; clear hf hh; clear a; intro B4 a w hf hh
                first | refine ops_store (i := 0) hf hh rfl rfl rfl Tryz.sz_33 rfl rfl rfl (.inl rfl) fun w hh => ?_ | refine ops_store (i := 1) hf hh rfl rfl rfl Tryz.sz_33 rfl rfl rfl (.inl rfl) fun w hh => ?_ | refine ops_store (i := 2) hf hh rfl rfl rfl Tryz.sz_33 rfl rfl rfl (.inl rfl) fun w hh => ?_ | refine ops_store (i := 3) hf hh rfl rfl rfl Tryz.sz_33 rfl rfl rfl (.inl rfl) fun w hh => ?_
                refine ops_end ?_
                refine then_n ?_
                refine sy_seq ?_
                refine sy_ops ?_
                refine ops_v hf hh (yv_fieldAddr Tryz.fo_33_0 rfl) (.inl rfl) rfl rfl rfl ?_; clear hf; clear a; intro a hf
                refine ops_v hf hh (yv_load Tryz.sc_3 rfl (fun _ h => by first | exact h.at (i := 0) rfl | exact h.at (i := 1) rfl | exact h.at (i := 2) rfl | exact h.at (i := 3) rfl | exact h.old hb) (by first | rfl | assumption)) (.inl rfl) rfl rfl rfl ?_; clear hf; clear a; intro a hf
                refine ops_call hf Tryz.en_26 rfl rfl rfl (.inl rfl) rfl (c44 _ _ _ _) ?_; clear hf; clear a; intro v a w hR hf
                obtain ⟨rfl, hx⟩ := hR; replace hh := hh.more hx; clear hx
                refine ops_v hf hh (yv_not rfl) (.inl rfl) rfl rfl rfl ?_; clear hf; clear a; intro a hf
                refine ops_v hf hh (yv_move rfl) (.inl rfl) rfl rfl rfl ?_; clear hf; clear a; intro a hf
                refine guard_split hf (t := 53) rfl (fun hg15 => ?_) (fun hg15 => ?_)
                · have hG15 := hg15; try simp only [gS] at hG15
                  refine ops_off hf (goff rfl rfl rfl (by first | assumption | rfl | (simp; done))) rfl rfl ?_; clear hf; clear a; intro a hf
                  refine ops_off hf (goff rfl rfl rfl (by first | assumption | rfl | (simp; done))) rfl rfl ?_; clear hf; clear a; intro a hf
                  refine ops_off hf (goff rfl rfl rfl (by first | assumption | rfl | (simp; done))) rfl rfl ?_; clear hf; clear a; intro a hf
                  refine ops_off hf (goff rfl rfl rfl (by first | assumption | rfl | (simp; done))) rfl rfl ?_; clear hf; clear a; intro a hf
                  refine ops_off hf (goff rfl rfl rfl (by first | assumption | rfl | (simp; done))) rfl rfl ?_; clear hf; clear a; intro a hf
                  refine ops_off hf (goff rfl rfl rfl (by first | assumption | rfl | (simp; done))) rfl rfl ?_; clear hf; clear a; intro a hf
                  refine ops_v hf hh (yv_pick_t rfl (by first | assumption | rfl | (simp; done)) rfl) (.inl rfl) rfl rfl rfl ?_; clear hf; clear a; intro a hf
                  refine ops_v hf hh (yv_move rfl) (.inl rfl) rfl rfl rfl ?_; clear hf; clear a; intro a hf
                  refine ops_off hf (goff rfl rfl rfl (by first | assumption | rfl | (simp; done))) rfl rfl ?_; clear hf; clear a; intro a hf
                  refine ops_off hf (goff rfl rfl rfl (by first | assumption | rfl | (simp; done))) rfl rfl ?_; clear hf; clear a; intro a hf
                  refine ops_off hf (goff rfl rfl rfl (by first | assumption | rfl | (simp; done))) rfl rfl ?_; clear hf; clear a; intro a hf
                  refine ops_off hf (goff rfl rfl rfl (by first | assumption | rfl | (simp; done))) rfl rfl ?_; clear hf; clear a; intro a hf
                  refine ops_v hf hh (yv_pick_t rfl (by first | assumption | rfl | (simp; done)) rfl) (.inl rfl) rfl rfl rfl ?_; clear hf; clear a; intro a hf
                  refine ops_end ?_
                  refine then_n ?_
                  refine sy_ct hf rfl (by first | assumption | rfl | (simp; done)) ?_
                  refine sy_seq ?_
                  refine sy_ops ?_
                  refine ops_v hf hh (yv_assign rfl) (.inl rfl) rfl rfl rfl ?_; clear hf; clear a; intro a hf
                  refine ops_end ?_
                  refine then_n ?_
                  refine sy_ret ?_
                  refine blk_r ?_
                  refine then_r ?_
                  refine then_r ?_
                  refine blk_r ?_
                  refine then_r ?_
                  refine ret_r hf rfl rfl ?_
                  refine ⟨congrArg Value.bool ?_, hh.ext⟩
                  first
                    | (refine okBar_no fun hV => ?_
                       have h1 := hV.s1; have h2 := hV.s2; have h3 := hV.p1; have h4 := hV.p2; have h5 := hV.k1; have h6 := hV.k2; have h7 := hV.m1; have h8 := hV.m2; have h9 := hV.n
                       have h10 := hpw h1 h2
                       omega)
                    | (refine okBar_no fun hV => ?_
                       have hO := hV.sc s hms
                       have h1 := hO.l1; have h2 := hO.l2; have h3 := hO.m1; have h4 := hO.m2; have h5 := hO.c1; have h6 := hO.c2
                       omega)
                    | (exact okBar_yes ⟨by omega, by omega, by omega, by omega, by omega, by omega, by omega, by omega, by omega, fun s hs => by
                         obtain ⟨j, hj⟩ := List.getElem?_of_mem hs
                         exact hq2 j s (by have := len_of hj; omega) hj⟩)
                · have hG15 := hg15; try simp only [gS] at hG15
                  refine ops_v hf hh (yv_fieldAddr Tryz.fo_33_1 rfl) (gon rfl rfl rfl (by first | assumption | rfl | (simp; done))) rfl rfl rfl ?_; clear hf; clear a; intro a hf
                  refine ops_v hf hh (yv_load Tryz.sc_3 rfl (fun _ h => by first | exact h.at (i := 0) rfl | exact h.at (i := 1) rfl | exact h.at (i := 2) rfl | exact h.at (i := 3) rfl | exact h.old hb) (by first | rfl | assumption)) (gon rfl rfl rfl (by first | assumption | rfl | (simp; done))) rfl rfl rfl ?_; clear hf; clear a; intro a hf
                  refine ops_v hf hh (yv_fieldAddr Tryz.fo_33_0 rfl) (gon rfl rfl rfl (by first | assumption | rfl | (simp; done))) rfl rfl rfl ?_; clear hf; clear a; intro a hf
                  refine ops_v hf hh (yv_load Tryz.sc_3 rfl (fun _ h => by first | exact h.at (i := 0) rfl | exact h.at (i := 1) rfl | exact h.at (i := 2) rfl | exact h.at (i := 3) rfl | exact h.old hb) (by first | rfl | assumption)) (gon rfl rfl rfl (by first | assumption | rfl | (simp; done))) rfl rfl rfl ?_; clear hf; clear a; intro a hf
                  refine ops_call hf Tryz.en_26 rfl rfl rfl (gon rfl rfl rfl (by first | assumption | rfl | (simp; done))) rfl (c44 _ _ _ _) ?_; clear hf; clear a; intro v a w hR hf
                  obtain ⟨rfl, hx⟩ := hR; replace hh := hh.more hx; clear hx
                  refine ops_v hf hh (yv_not rfl) (gon rfl rfl rfl (by first | assumption | rfl | (simp; done))) rfl rfl rfl ?_; clear hf; clear a; intro a hf
                  refine ops_v hf hh (yv_pick_f rfl (by first | assumption | rfl | (simp; done)) rfl) (.inl rfl) rfl rfl rfl ?_; clear hf; clear a; intro a hf
                  refine ops_v hf hh (yv_move rfl) (.inl rfl) rfl rfl rfl ?_; clear hf; clear a; intro a hf
                  refine guard_split hf (t := 61) rfl (fun hg17 => ?_) (fun hg17 => ?_)
                  · have hG17 := hg17; try simp only [gS] at hG17
                    refine ops_off hf (goff rfl rfl rfl (by first | assumption | rfl | (simp; done))) rfl rfl ?_; clear hf; clear a; intro a hf
                    refine ops_off hf (goff rfl rfl rfl (by first | assumption | rfl | (simp; done))) rfl rfl ?_; clear hf; clear a; intro a hf
                    refine ops_off hf (goff rfl rfl rfl (by first | assumption | rfl | (simp; done))) rfl rfl ?_; clear hf; clear a; intro a hf
                    refine ops_off hf (goff rfl rfl rfl (by first | assumption | rfl | (simp; done))) rfl rfl ?_; clear hf; clear a; intro a hf
                    refine ops_v hf hh (yv_pick_t rfl (by first | assumption | rfl | (simp; done)) rfl) (.inl rfl) rfl rfl rfl ?_; clear hf; clear a; intro a hf
                    refine ops_end ?_
                    refine then_n ?_
                    refine sy_ct hf rfl (by first | assumption | rfl | (simp; done)) ?_
                    refine sy_seq ?_
                    refine sy_ops ?_
                    refine ops_v hf hh (yv_assign rfl) (.inl rfl) rfl rfl rfl ?_; clear hf; clear a; intro a hf
                    refine ops_end ?_
                    refine then_n ?_
                    refine sy_ret ?_
                    refine blk_r ?_
                    refine then_r ?_
                    refine then_r ?_
                    refine blk_r ?_
                    refine then_r ?_
                    refine ret_r hf rfl rfl ?_
                    refine ⟨congrArg Value.bool ?_, hh.ext⟩
                    first
                      | (refine okBar_no fun hV => ?_
                         have h1 := hV.s1; have h2 := hV.s2; have h3 := hV.p1; have h4 := hV.p2; have h5 := hV.k1; have h6 := hV.k2; have h7 := hV.m1; have h8 := hV.m2; have h9 := hV.n
                         have h10 := hpw h1 h2
                         omega)
                      | (refine okBar_no fun hV => ?_
                         have hO := hV.sc s hms
                         have h1 := hO.l1; have h2 := hO.l2; have h3 := hO.m1; have h4 := hO.m2; have h5 := hO.c1; have h6 := hO.c2
                         omega)
                      | (exact okBar_yes ⟨by omega, by omega, by omega, by omega, by omega, by omega, by omega, by omega, by omega, fun s hs => by
                           obtain ⟨j, hj⟩ := List.getElem?_of_mem hs
                           exact hq2 j s (by have := len_of hj; omega) hj⟩)
                  · have hG17 := hg17; try simp only [gS] at hG17
                    refine ops_v hf hh (yv_fieldAddr Tryz.fo_33_2 rfl) (gon rfl rfl rfl (by first | assumption | rfl | (simp; done))) rfl rfl rfl ?_; clear hf; clear a; intro a hf
                    refine ops_v hf hh (yv_load Tryz.sc_3 rfl (fun _ h => by first | exact h.at (i := 0) rfl | exact h.at (i := 1) rfl | exact h.at (i := 2) rfl | exact h.at (i := 3) rfl | exact h.old hb) (by first | rfl | assumption)) (gon rfl rfl rfl (by first | assumption | rfl | (simp; done))) rfl rfl rfl ?_; clear hf; clear a; intro a hf
                    refine ops_call hf Tryz.en_26 rfl rfl rfl (gon rfl rfl rfl (by first | assumption | rfl | (simp; done))) rfl (c44 _ _ _ _) ?_; clear hf; clear a; intro v a w hR hf
                    obtain ⟨rfl, hx⟩ := hR; replace hh := hh.more hx; clear hx
                    refine ops_v hf hh (yv_not rfl) (gon rfl rfl rfl (by first | assumption | rfl | (simp; done))) rfl rfl rfl ?_; clear hf; clear a; intro a hf
                    refine ops_v hf hh (yv_pick_f rfl (by first | assumption | rfl | (simp; done)) rfl) (.inl rfl) rfl rfl rfl ?_; clear hf; clear a; intro a hf
                    refine ops_end ?_
                    refine then_n ?_
                    refine sy_cond hf rfl (fun hg19 => ?_) (fun hg19 => ?_)
                    · have hG19 := hg19; try simp only [gS] at hG19
                      refine sy_seq ?_
                      refine sy_ops ?_
                      refine ops_v hf hh (yv_assign rfl) (.inl rfl) rfl rfl rfl ?_; clear hf; clear a; intro a hf
                      refine ops_end ?_
                      refine then_n ?_
                      refine sy_ret ?_
                      refine blk_r ?_
                      refine then_r ?_
                      refine then_r ?_
                      refine blk_r ?_
                      refine then_r ?_
                      refine ret_r hf rfl rfl ?_
                      refine ⟨congrArg Value.bool ?_, hh.ext⟩
                      first
                        | (refine okBar_no fun hV => ?_
                           have h1 := hV.s1; have h2 := hV.s2; have h3 := hV.p1; have h4 := hV.p2; have h5 := hV.k1; have h6 := hV.k2; have h7 := hV.m1; have h8 := hV.m2; have h9 := hV.n
                           have h10 := hpw h1 h2
                           omega)
                        | (refine okBar_no fun hV => ?_
                           have hO := hV.sc s hms
                           have h1 := hO.l1; have h2 := hO.l2; have h3 := hO.m1; have h4 := hO.m2; have h5 := hO.c1; have h6 := hO.c2
                           omega)
                        | (exact okBar_yes ⟨by omega, by omega, by omega, by omega, by omega, by omega, by omega, by omega, by omega, fun s hs => by
                             obtain ⟨j, hj⟩ := List.getElem?_of_mem hs
                             exact hq2 j s (by have := len_of hj; omega) hj⟩)
                    · have hG19 := hg19; try simp only [gS] at hG19
                      refine sy_skip ?_
                      refine blk_n ?_
                      refine then_n ?_
                      refine sy_ops ?_
                      refine ops_v hf hh (yv_move rfl) (.inl rfl) rfl rfl rfl ?_; clear hf; clear a; intro a hf
                      first | refine ops_v hf hh (yv_add rfl rfl (by omega) (by omega)) (.inl rfl) rfl rfl rfl ?_; clear hf; clear a; intro a hf | refine ops_v hf hh (yv_bin rfl rfl rfl) (.inl rfl) rfl rfl rfl ?_; clear hf; clear a; intro a hf
                      refine ops_v hf hh (yv_assign rfl) (.inl rfl) rfl rfl rfl ?_; clear hf; clear a; intro a hf
                      refine ops_end ?_
                      refine then_n ?_
                      refine ⟨k + 1, ⟨⟨by omega, fun j t hj ht => ?_⟩, hf.head ⟨rfl, True.intro⟩ (Keep.cons rfl (Keep.cons rfl (Keep.cons rfl (Keep.cons rfl (Keep.cons rfl (Keep.cons rfl (Keep.cons rfl (Keep.cons rfl (Keep.cons rfl (Keep.cons rfl (Keep.cons rfl (Keep.cons rfl (Keep.cons rfl (Keep.cons rfl (Keep.cons rfl (Keep.cons rfl (Keep.cons rfl (Keep.cons rfl (Keep.cons rfl (Keep.cons rfl (Keep.cons rfl (Keep.cons rfl (Keep.cons rfl (Keep.cons rfl (Keep.cons rfl (Keep.cons rfl (Keep.cons rfl (Keep.cons rfl (Keep.cons rfl (Keep.cons rfl (Keep.cons rfl (Keep.cons rfl (Keep.app rfl (Keep.rm rfl Keep.base)))))))))))))))))))))))))))))))))), hh.less (.cons _ (List.Sublist.refl _))⟩, by omega⟩
                      by_cases hjk : j = k
                      · subst hjk; rw [hs] at ht; cases ht; exact ⟨by omega, by omega, by omega, by omega, by omega, by omega⟩
                      · exact hq2 j t (by omega) ht
              · have hG13 := hg13; try simp only [gS] at hG13
                refine sy_exit ?_
                refine then_e ?_
                refine then_e ?_
                refine blk_e ?_
                refine then_n ?_
                refine sy_seq ?_
                refine sy_ops ?_
                refine ops_v hf hh (yv_assign rfl) (.inl rfl) rfl rfl rfl ?_; clear hf; clear a; intro a hf
                refine ops_end ?_
                refine then_n ?_
                refine sy_ret ?_
                refine ret_r hf rfl rfl ?_
                refine ⟨congrArg Value.bool ?_, hh.ext⟩
                first
                  | (refine okBar_no fun hV => ?_
                     have h1 := hV.s1; have h2 := hV.s2; have h3 := hV.p1; have h4 := hV.p2; have h5 := hV.k1; have h6 := hV.k2; have h7 := hV.m1; have h8 := hV.m2; have h9 := hV.n
                     have h10 := hpw h1 h2
                     omega)
                  | (refine okBar_no fun hV => ?_
                     have hO := hV.sc s hms
                     have h1 := hO.l1; have h2 := hO.l2; have h3 := hO.m1; have h4 := hO.m2; have h5 := hO.c1; have h6 := hO.c2
                     omega)
                  | (exact okBar_yes ⟨by omega, by omega, by omega, by omega, by omega, by omega, by omega, by omega, by omega, fun s hs => by
                       obtain ⟨j, hj⟩ := List.getElem?_of_mem hs
                       exact hq2 j s (by have := len_of hj; omega) hj⟩)
theorem isPlanI_nn {b : BarD} {p : Int} (h : isPlanI b p = true) : 0 ≤ p := by simp [isPlanI] at h; exact h.1
/-- What Best hands back. -/
def bestV (b : BarD) (p i : Int) : Value :=
  if okBar b then
    if isPlanI b p && decide (0 ≤ i) then
      match b.scenes[i.toNat]? with
      | none => .tuple #[.int .i64 0, .int .i64 0, .int .i64 2]
      | some s => match best b p.toNat s with
        | none => .tuple #[.int .i64 0, .int .i64 0, .int .i64 4]
        | some x => .tuple #[.int .i64 x.1, .int .i64 x.2, .int .i64 0]
    else .tuple #[.int .i64 0, .int .i64 0, .int .i64 2]
  else .tuple #[.int .i64 0, .int .i64 0, .int .i64 1]
theorem bestV_arg {b : BarD} {p i : Int} (h : okBar b = false) : bestV b p i = .tuple #[.int .i64 0, .int .i64 0, .int .i64 1] := by simp [bestV, h]
theorem bestV_plan {b : BarD} {p i : Int} (h : okBar b = true) (hp : isPlanI b p = false) : bestV b p i = .tuple #[.int .i64 0, .int .i64 0, .int .i64 2] := by simp [bestV, h, hp]
theorem bestV_scene {b : BarD} {p i : Int} (h : okBar b = true) (hp : isPlanI b p = true) (hi : i < 0 ∨ (b.scenes.length : Int) - 1 < i) : bestV b p i = .tuple #[.int .i64 0, .int .i64 0, .int .i64 2] := by
  by_cases h0 : 0 ≤ i
  · have : b.scenes[i.toNat]? = none := List.getElem?_eq_none (by omega)
    simp [bestV, h, hp, h0, this]
  · simp [bestV, h, hp, h0]
end Go.Proofs.YtccpgpnekoncoaaGreatDoor

namespace Go.Proofs.YtccpgpnekoncoaaGreatDoor
open Go Go.Sy Go.BarM
theorem c40 (n lo hi : Int) (w : World) : Calls Tryz.prog 22 #[.int .i64 n, .int .i64 lo, .int .i64 hi] w (Ret fun v w' => v = .bool (decide (lo ≤ n ∧ n ≤ hi)) ∧ Ext [] w w') := by
  refine calls_of Tryz.func22 rfl rfl (fun a hf => ?_)
  have hh := Hp.init w []
  refine sy_seq ?_
  refine sy_ops ?_
  refine ops_v hf hh (yv_assign rfl) (.inl rfl) rfl rfl rfl ?_; clear hf; clear a; intro a hf
  refine ops_end ?_
  refine then_n ?_
  refine sy_seq ?_
  refine sy_ops ?_
  refine ops_v hf hh (yv_move rfl) (.inl rfl) rfl rfl rfl ?_; clear hf; clear a; intro a hf
  refine ops_v hf hh (yv_move rfl) (.inl rfl) rfl rfl rfl ?_; clear hf; clear a; intro a hf
  refine ops_v hf hh (yv_bin rfl rfl rfl) (.inl rfl) rfl rfl rfl ?_; clear hf; clear a; intro a hf
  refine ops_v hf hh (yv_move rfl) (.inl rfl) rfl rfl rfl ?_; clear hf; clear a; intro a hf
  refine guard_split hf (t := 10) rfl (fun hg2 => ?_) (fun hg2 => ?_)
  · have hG2 := hg2; try simp only [gS] at hG2
    refine ops_v hf hh (yv_move rfl) (gon rfl rfl rfl (by first | assumption | rfl | (simp; done))) rfl rfl rfl ?_; clear hf; clear a; intro a hf
    refine ops_v hf hh (yv_move rfl) (gon rfl rfl rfl (by first | assumption | rfl | (simp; done))) rfl rfl rfl ?_; clear hf; clear a; intro a hf
    refine ops_v hf hh (yv_bin rfl rfl rfl) (gon rfl rfl rfl (by first | assumption | rfl | (simp; done))) rfl rfl rfl ?_; clear hf; clear a; intro a hf
    refine ops_v hf hh (yv_pick_t rfl (by first | assumption | rfl | (simp; done)) rfl) (.inl rfl) rfl rfl rfl ?_; clear hf; clear a; intro a hf
    refine ops_v hf hh (yv_assign rfl) (.inl rfl) rfl rfl rfl ?_; clear hf; clear a; intro a hf
    refine ops_end ?_
    refine then_n ?_
    refine sy_ret ?_
    refine ret_r hf rfl rfl ?_
    refine ⟨?_, hh.ext⟩; simp [tup]; omega
  · have hG2 := hg2; try simp only [gS] at hG2
    refine ops_off hf (goff rfl rfl rfl (by first | assumption | rfl | (simp; done))) rfl rfl ?_; clear hf; clear a; intro a hf
    refine ops_off hf (goff rfl rfl rfl (by first | assumption | rfl | (simp; done))) rfl rfl ?_; clear hf; clear a; intro a hf
    refine ops_off hf (goff rfl rfl rfl (by first | assumption | rfl | (simp; done))) rfl rfl ?_; clear hf; clear a; intro a hf
    refine ops_v hf hh (yv_pick_f rfl (by first | assumption | rfl | (simp; done)) rfl) (.inl rfl) rfl rfl rfl ?_; clear hf; clear a; intro a hf
    refine ops_v hf hh (yv_assign rfl) (.inl rfl) rfl rfl rfl ?_; clear hf; clear a; intro a hf
    refine ops_end ?_
    refine then_n ?_
    refine sy_ret ?_
    refine ret_r hf rfl rfl ?_
    refine ⟨?_, hh.ext⟩; simp [tup]; omega
theorem c72 (x : Nat) (hx : x < 65536) (w : World) : Calls Tryz.prog 114 #[.int .u64 x] w (Ret fun v w' => v = .int .i64 (pc x) ∧ Ext [] w w') := by
  refine calls_of Tryz.func114 rfl rfl (fun a hf => ?_)
  have hh := Hp.init w []
  have k1 := sw1_le x hx; have k2 := sw2_le x hx; have k3 := sw3_le x hx; have k4 := sw4_le x hx; have k5 := sw5_le x hx; have k6 := sw6_le x hx
  have n0 := @Nat.and_le_left (x / 2) 6148914691236517205
  have n1 := @Nat.and_le_left (x) 6148914691236517205
  have n2 := @Nat.and_le_left (sw1 x / 4) 3689348814741910323
  have n3 := @Nat.and_le_left (sw1 x) 3689348814741910323
  refine sy_seq ?_
  refine sy_ops ?_
  refine ops_v hf hh (yv_assign rfl) (.inl rfl) rfl rfl rfl ?_; clear hf; clear a; intro a hf
  refine ops_end ?_
  refine then_n ?_
  refine sy_seq ?_
  refine sy_ops ?_
  refine ops_v hf hh (yv_move rfl) (.inl rfl) rfl rfl rfl ?_; clear hf; clear a; intro a hf
  refine ops_v hf hh (yv_cast (yv_shrx (.inr rfl) rfl rfl (by omega) (by omega) (by omega)) (intv (b := (((x) / 2 : Nat) : Int)) (by simp [Nat.shiftRight_eq_div_pow]))) (.inl rfl) rfl rfl rfl ?_; clear hf; clear a; intro a hf
  refine ops_v hf hh (yv_cast (yv_and (.inr rfl) rfl rfl (by omega) (by simp only [IntKind.top]; omega) (by omega) (by simp only [IntKind.top]; omega)) (intv (b := ((x / 2 &&& 6148914691236517205 : Nat) : Int)) rfl)) (.inl rfl) rfl rfl rfl ?_; clear hf; clear a; intro a hf
  refine ops_v hf hh (yv_move rfl) (.inl rfl) rfl rfl rfl ?_; clear hf; clear a; intro a hf
  refine ops_v hf hh (yv_cast (yv_and (.inr rfl) rfl rfl (by omega) (by simp only [IntKind.top]; omega) (by omega) (by simp only [IntKind.top]; omega)) (intv (b := ((x &&& 6148914691236517205 : Nat) : Int)) rfl)) (.inl rfl) rfl rfl rfl ?_; clear hf; clear a; intro a hf
  first | refine ops_v hf hh (yv_addx (.inr rfl) rfl rfl (by omega) (by simp only [IntKind.top]; omega)) (.inl rfl) rfl rfl rfl ?_; clear hf; clear a; intro a hf | refine ops_v hf hh (yv_bin rfl rfl rfl) (.inl rfl) rfl rfl rfl ?_; clear hf; clear a; intro a hf
  refine ops_v hf hh (yv_cast (yv_assign rfl) (intv (b := ((sw1 x : Nat) : Int)) rfl)) (.inl rfl) rfl rfl rfl ?_; clear hf; clear a; intro a hf
  refine ops_end ?_
  refine then_n ?_
  refine sy_seq ?_
  refine sy_ops ?_
  refine ops_v hf hh (yv_move rfl) (.inl rfl) rfl rfl rfl ?_; clear hf; clear a; intro a hf
  refine ops_v hf hh (yv_cast (yv_shrx (.inr rfl) rfl rfl (by omega) (by omega) (by omega)) (intv (b := ((((sw1 x)) / 4 : Nat) : Int)) (by simp [Nat.shiftRight_eq_div_pow]))) (.inl rfl) rfl rfl rfl ?_; clear hf; clear a; intro a hf
  refine ops_v hf hh (yv_cast (yv_and (.inr rfl) rfl rfl (by omega) (by simp only [IntKind.top]; omega) (by omega) (by simp only [IntKind.top]; omega)) (intv (b := ((sw1 x / 4 &&& 3689348814741910323 : Nat) : Int)) rfl)) (.inl rfl) rfl rfl rfl ?_; clear hf; clear a; intro a hf
  refine ops_v hf hh (yv_move rfl) (.inl rfl) rfl rfl rfl ?_; clear hf; clear a; intro a hf
  refine ops_v hf hh (yv_cast (yv_and (.inr rfl) rfl rfl (by omega) (by simp only [IntKind.top]; omega) (by omega) (by simp only [IntKind.top]; omega)) (intv (b := ((sw1 x &&& 3689348814741910323 : Nat) : Int)) rfl)) (.inl rfl) rfl rfl rfl ?_; clear hf; clear a; intro a hf
  first | refine ops_v hf hh (yv_addx (.inr rfl) rfl rfl (by omega) (by simp only [IntKind.top]; omega)) (.inl rfl) rfl rfl rfl ?_; clear hf; clear a; intro a hf | refine ops_v hf hh (yv_bin rfl rfl rfl) (.inl rfl) rfl rfl rfl ?_; clear hf; clear a; intro a hf
  refine ops_v hf hh (yv_cast (yv_assign rfl) (intv (b := ((sw2 (sw1 x) : Nat) : Int)) rfl)) (.inl rfl) rfl rfl rfl ?_; clear hf; clear a; intro a hf
  refine ops_end ?_
  refine then_n ?_
  refine sy_seq ?_
  refine sy_ops ?_
  refine ops_v hf hh (yv_move rfl) (.inl rfl) rfl rfl rfl ?_; clear hf; clear a; intro a hf
  refine ops_v hf hh (yv_cast (yv_shrx (.inr rfl) rfl rfl (by omega) (by omega) (by omega)) (intv (b := ((((sw2 (sw1 x))) / 16 : Nat) : Int)) (by simp [Nat.shiftRight_eq_div_pow]))) (.inl rfl) rfl rfl rfl ?_; clear hf; clear a; intro a hf
  refine ops_v hf hh (yv_move rfl) (.inl rfl) rfl rfl rfl ?_; clear hf; clear a; intro a hf
  first | refine ops_v hf hh (yv_addx (.inr rfl) rfl rfl (by omega) (by simp only [IntKind.top]; omega)) (.inl rfl) rfl rfl rfl ?_; clear hf; clear a; intro a hf | refine ops_v hf hh (yv_bin rfl rfl rfl) (.inl rfl) rfl rfl rfl ?_; clear hf; clear a; intro a hf
  first | refine ops_v hf hh (yv_and (.inr rfl) rfl rfl (by omega) (by simp only [IntKind.top]; omega) (by omega) (by simp only [IntKind.top]; omega)) (.inl rfl) rfl rfl rfl ?_; clear hf; clear a; intro a hf | refine ops_v hf hh (yv_bin rfl rfl rfl) (.inl rfl) rfl rfl rfl ?_; clear hf; clear a; intro a hf
  refine ops_v hf hh (yv_cast (yv_assign rfl) (intv (b := ((sw3 (sw2 (sw1 x)) : Nat) : Int)) rfl)) (.inl rfl) rfl rfl rfl ?_; clear hf; clear a; intro a hf
  refine ops_end ?_
  refine then_n ?_
  refine sy_seq ?_
  refine sy_ops ?_
  refine ops_v hf hh (yv_move rfl) (.inl rfl) rfl rfl rfl ?_; clear hf; clear a; intro a hf
  refine ops_v hf hh (yv_move rfl) (.inl rfl) rfl rfl rfl ?_; clear hf; clear a; intro a hf
  refine ops_v hf hh (yv_cast (yv_shrx (.inr rfl) rfl rfl (by omega) (by omega) (by omega)) (intv (b := ((((sw3 (sw2 (sw1 x)))) / 256 : Nat) : Int)) (by simp [Nat.shiftRight_eq_div_pow]))) (.inl rfl) rfl rfl rfl ?_; clear hf; clear a; intro a hf
  first | refine ops_v hf hh (yv_addx (.inr rfl) rfl rfl (by omega) (by simp only [IntKind.top]; omega)) (.inl rfl) rfl rfl rfl ?_; clear hf; clear a; intro a hf | refine ops_v hf hh (yv_bin rfl rfl rfl) (.inl rfl) rfl rfl rfl ?_; clear hf; clear a; intro a hf
  refine ops_v hf hh (yv_cast (yv_assign rfl) (intv (b := ((sw4 (sw3 (sw2 (sw1 x))) : Nat) : Int)) rfl)) (.inl rfl) rfl rfl rfl ?_; clear hf; clear a; intro a hf
  refine ops_end ?_
  refine then_n ?_
  refine sy_seq ?_
  refine sy_ops ?_
  refine ops_v hf hh (yv_move rfl) (.inl rfl) rfl rfl rfl ?_; clear hf; clear a; intro a hf
  refine ops_v hf hh (yv_move rfl) (.inl rfl) rfl rfl rfl ?_; clear hf; clear a; intro a hf
  refine ops_v hf hh (yv_cast (yv_shrx (.inr rfl) rfl rfl (by omega) (by omega) (by omega)) (intv (b := ((((sw4 (sw3 (sw2 (sw1 x))))) / 65536 : Nat) : Int)) (by simp [Nat.shiftRight_eq_div_pow]))) (.inl rfl) rfl rfl rfl ?_; clear hf; clear a; intro a hf
  first | refine ops_v hf hh (yv_addx (.inr rfl) rfl rfl (by omega) (by simp only [IntKind.top]; omega)) (.inl rfl) rfl rfl rfl ?_; clear hf; clear a; intro a hf | refine ops_v hf hh (yv_bin rfl rfl rfl) (.inl rfl) rfl rfl rfl ?_; clear hf; clear a; intro a hf
  refine ops_v hf hh (yv_cast (yv_assign rfl) (intv (b := ((sw5 (sw4 (sw3 (sw2 (sw1 x)))) : Nat) : Int)) rfl)) (.inl rfl) rfl rfl rfl ?_; clear hf; clear a; intro a hf
  refine ops_end ?_
  refine then_n ?_
  refine sy_seq ?_
  refine sy_ops ?_
  refine ops_v hf hh (yv_move rfl) (.inl rfl) rfl rfl rfl ?_; clear hf; clear a; intro a hf
  refine ops_v hf hh (yv_move rfl) (.inl rfl) rfl rfl rfl ?_; clear hf; clear a; intro a hf
  refine ops_v hf hh (yv_cast (yv_shrx (.inr rfl) rfl rfl (by omega) (by omega) (by omega)) (intv (b := ((((sw5 (sw4 (sw3 (sw2 (sw1 x)))))) / 4294967296 : Nat) : Int)) (by simp [Nat.shiftRight_eq_div_pow]))) (.inl rfl) rfl rfl rfl ?_; clear hf; clear a; intro a hf
  first | refine ops_v hf hh (yv_addx (.inr rfl) rfl rfl (by omega) (by simp only [IntKind.top]; omega)) (.inl rfl) rfl rfl rfl ?_; clear hf; clear a; intro a hf | refine ops_v hf hh (yv_bin rfl rfl rfl) (.inl rfl) rfl rfl rfl ?_; clear hf; clear a; intro a hf
  refine ops_v hf hh (yv_cast (yv_assign rfl) (intv (b := ((sw6 (sw5 (sw4 (sw3 (sw2 (sw1 x))))) : Nat) : Int)) rfl)) (.inl rfl) rfl rfl rfl ?_; clear hf; clear a; intro a hf
  refine ops_end ?_
  refine then_n ?_
  refine sy_seq ?_
  refine sy_ops ?_
  refine ops_v hf hh (yv_move rfl) (.inl rfl) rfl rfl rfl ?_; clear hf; clear a; intro a hf
  first | refine ops_v hf hh (yv_convx (.inl rfl) (by kernel_rfl) Tryz.un_3 rfl (by omega) (by simp only [IntKind.top]; omega)) (.inl rfl) rfl rfl rfl ?_; clear hf; clear a; intro a hf | refine ops_v hf hh (yv_conv (by kernel_rfl) Tryz.un_3 rfl) (.inl rfl) rfl rfl rfl ?_; clear hf; clear a; intro a hf
  first | refine ops_v hf hh (yv_and (.inl rfl) rfl rfl (by omega) (by simp only [IntKind.top]; omega) (by omega) (by simp only [IntKind.top]; omega)) (.inl rfl) rfl rfl rfl ?_; clear hf; clear a; intro a hf | refine ops_v hf hh (yv_bin rfl rfl rfl) (.inl rfl) rfl rfl rfl ?_; clear hf; clear a; intro a hf
  refine ops_v hf hh (yv_assign rfl) (.inl rfl) rfl rfl rfl ?_; clear hf; clear a; intro a hf
  refine ops_end ?_
  refine then_n ?_
  refine sy_ret ?_
  refine ret_r hf rfl rfl ?_
  refine ⟨?_, hh.ext⟩
  rw [← sw_pc hx]
  exact intv (by unfold sw; rfl)
/-- The library's table for lowest bits lies in its variable. -/
def GTab (w : World) : Prop := ∃ c T fr, w.heap[1]? = some (.cells c T fr) ∧ ∀ j, j < 64 → c[j]? = some (.int .u8 (Lib.deBruijn64tab.getD j 0))
theorem GTab.ext {w w' : World} {M : List Nat} (h : GTab w) (e : Ext M w w') (hm : 1 ∉ M) : GTab w' :=
  let ⟨c, T, fr, h1, h2⟩ := h
  ⟨c, T, fr, e.getM h1 hm, h2⟩
theorem tz_idx (x : Nat) (hx : x < 65536) (hx0 : x ≠ 0) : (IntKind.u64.wrap (IntKind.u64.wrap ((BitVec.ofInt IntKind.u64.bits (x : Int) &&& BitVec.ofInt IntKind.u64.bits (IntKind.u64.wrap (0 - (x : Int)))).toNat : Int) * 285870213051353865)).fdiv (2 ^ (58 : Int).toNat) =
    ((2 ^ Lib.ctz 64 x * 285870213051353865 % 18446744073709551616 / 288230376151711744 : Nat) : Int) := by
  obtain ⟨hlow, _⟩ := Lib.lowest_bit 64 x hx0 (by omega)
  have h := tz64_key x _ (by omega) hx0 hlow
  rw [Int.zero_sub, Int.fdiv_eq_ediv_of_nonneg _ (Int.pow_nonneg (by omega))]
  exact h
theorem c57 (x : Nat) (hx : x < 65536) (w : World) : Calls Tryz.prog 96 #[.int .u64 x] w (Ret fun v w' => v = .int .i64 (pc x) ∧ Ext [] w w') := by
  refine calls_of Tryz.func96 rfl rfl (fun a hf => ?_)
  have hh := Hp.init w []
  refine sy_seq ?_
  refine sy_ops ?_
  refine ops_v hf hh (yv_assign rfl) (.inl rfl) rfl rfl rfl ?_; clear hf; clear a; intro a hf
  refine ops_end ?_
  refine then_n ?_
  refine sy_seq ?_
  refine sy_cf hf rfl (by first | assumption | rfl | (simp; done)) ?_
  refine sy_skip ?_
  refine then_n ?_
  refine sy_seq ?_
  refine sy_ops ?_
  refine ops_v hf hh (yv_move rfl) (.inl rfl) rfl rfl rfl ?_; clear hf; clear a; intro a hf
  refine ops_call hf Tryz.en_114 rfl rfl rfl (.inl rfl) rfl (c72 x hx _) ?_; clear hf; clear a; intro v a w hR hf
  obtain ⟨rfl, hx⟩ := hR; replace hh := hh.more hx; clear hx
  refine ops_v hf hh (yv_assign rfl) (.inl rfl) rfl rfl rfl ?_; clear hf; clear a; intro a hf
  refine ops_end ?_
  refine then_n ?_
  refine sy_ret ?_
  refine ret_r hf rfl rfl ?_
  exact ⟨rfl, hh.ext⟩
theorem c53 (x : Nat) (hx : x < 65536) (w : World) : Calls Tryz.prog 57 #[.int .u64 x] w (Ret fun v w' => v = .int .i64 (pc x) ∧ Ext [] w w') := by
  refine calls_of Tryz.func57 rfl rfl (fun a hf => ?_)
  have hh := Hp.init w []
  refine sy_seq ?_
  refine sy_ops ?_
  refine ops_v hf hh (yv_assign rfl) (.inl rfl) rfl rfl rfl ?_; clear hf; clear a; intro a hf
  refine ops_end ?_
  refine then_n ?_
  refine sy_seq ?_
  refine sy_ops ?_
  refine ops_v hf hh (yv_move rfl) (.inl rfl) rfl rfl rfl ?_; clear hf; clear a; intro a hf
  refine ops_call hf Tryz.en_96 rfl rfl rfl (.inl rfl) rfl (c57 x hx _) ?_; clear hf; clear a; intro v a w hR hf
  obtain ⟨rfl, hx⟩ := hR; replace hh := hh.more hx; clear hx
  refine ops_v hf hh (yv_assign rfl) (.inl rfl) rfl rfl rfl ?_; clear hf; clear a; intro a hf
  refine ops_end ?_
  refine then_n ?_
  refine sy_ret ?_
  refine ret_r hf rfl rfl ?_
  exact ⟨rfl, hh.ext⟩
theorem c53i (x : Int) (h0 : 0 ≤ x) (hx : x < 65536) (w : World) : Calls Tryz.prog 57 #[.int .u64 x] w (Ret fun v w' => v = .int .i64 (pc x.toNat) ∧ Ext [] w w') := by
  obtain ⟨m, rfl⟩ := Int.eq_ofNat_of_zero_le h0
  exact c53 m (by omega) w
theorem tz_all (x : Nat) (hx : x < 65536) (hx0 : x ≠ 0) (w : World) (hT : GTab w) : ∃ (n1 n2 n3 : Int) (idx : Nat) (c : Array Value) (T : TypeId) (fr : Nat × Nat),
    IntKind.u64.wrap (0 - (x : Int)) = n1 ∧ IntKind.u64.wrap ((BitVec.ofInt IntKind.u64.bits (x : Int) &&& BitVec.ofInt IntKind.u64.bits n1).toNat : Int) = n2 ∧ IntKind.u64.wrap (n2 * 285870213051353865) = n3 ∧
    n3.fdiv (2 ^ (58 : Int).toNat) = (idx : Int) ∧ idx < 64 ∧ w.heap[1]? = some (.cells c T fr) ∧ c[0 + idx * 1]? = some (.int .u8 (Lib.ctz 64 x)) ∧ Lib.ctz 64 x < 64 := by
  obtain ⟨c, T, fr, hb, hc⟩ := hT
  obtain ⟨_, hk⟩ := Lib.lowest_bit 64 x hx0 (by omega)
  obtain ⟨hi, htab⟩ := Lib.deBruijn64_at _ hk
  have hcc := hc _ hi
  rw [htab] at hcc
  exact ⟨_, _, _, _, c, T, fr, rfl, rfl, rfl, tz_idx x hx hx0, hi, hb, by rw [Nat.zero_add, Nat.mul_one]; exact hcc, hk⟩
theorem c76 (x : Nat) (hx : x < 65536) (hx0 : x ≠ 0) (w : World) (hT : GTab w) : Calls Tryz.prog 98 #[.int .u64 x] w (Ret fun v w' => v = .int .i64 (Lib.ctz 64 x) ∧ Ext [] w w') := by
  refine calls_of Tryz.func98 rfl rfl (fun a hf => ?_)
  have hh := Hp.init w []
  obtain ⟨n1, n2, n3, idx, c, T, fr, h1, h2, h3, hid, hi, hb, hcd, hk⟩ := tz_all x hx hx0 w hT
  refine sy_seq ?_
  refine sy_ops ?_
  refine ops_v hf hh (yv_assign rfl) (.inl rfl) rfl rfl rfl ?_; clear hf; clear a; intro a hf
  refine ops_end ?_
  refine then_n ?_
  refine sy_seq ?_
  refine sy_seq ?_
  refine sy_ops ?_
  refine ops_v hf hh (yv_move rfl) (.inl rfl) rfl rfl rfl ?_; clear hf; clear a; intro a hf
  refine ops_v hf hh (yv_bin rfl rfl rfl) (.inl rfl) rfl rfl rfl ?_; clear hf; clear a; intro a hf
  refine ops_end ?_
  refine then_n ?_
  refine sy_cond hf rfl (fun hg2 => ?_) (fun hg2 => ?_)
  · have hG2 := hg2; try simp only [gS] at hG2
    refine sy_seq ?_
    refine sy_ops ?_
    refine ops_v hf hh (yv_assign rfl) (.inl rfl) rfl rfl rfl ?_; clear hf; clear a; intro a hf
    refine ops_end ?_
    refine then_n ?_
    refine sy_ret ?_
    refine then_r ?_
    refine ret_r hf rfl rfl ?_
    first | exact ⟨rfl, hh.ext⟩ | (exfalso; omega)
  · have hG2 := hg2; try simp only [gS] at hG2
    refine sy_skip ?_
    refine then_n ?_
    refine sy_seq ?_
    refine sy_ops ?_
    refine ops_v hf hh (yv_move rfl) (.inl rfl) rfl rfl rfl ?_; clear hf; clear a; intro a hf
    refine ops_v hf hh (yv_move rfl) (.inl rfl) rfl rfl rfl ?_; clear hf; clear a; intro a hf
    refine ops_v hf hh (yv_cast (yv_negw rfl) (intv h1)) (.inl rfl) rfl rfl rfl ?_; clear hf; clear a; intro a hf
    refine ops_v hf hh (yv_cast (yv_bin rfl rfl rfl) (intv h2)) (.inl rfl) rfl rfl rfl ?_; clear hf; clear a; intro a hf
    refine ops_v hf hh (yv_cast (yv_bin rfl rfl rfl) (intv h3)) (.inl rfl) rfl rfl rfl ?_; clear hf; clear a; intro a hf
    refine ops_v hf hh (yv_cast (yv_shr rfl rfl (by omega) (by simp only [IntKind.bits]; omega)) (intv hid)) (.inl rfl) rfl rfl rfl ?_; clear hf; clear a; intro a hf
    refine ops_v hf hh (yv_indexArr Tryz.ae_190 rfl rfl (by omega) (by omega)) (.inl rfl) rfl rfl rfl ?_; clear hf; clear a; intro a hf
    refine ops_v hf hh (yv_load Tryz.sc_5 rfl (fun _ h => by first | exact h.at (i := 0) rfl | exact h.at (i := 1) rfl | exact h.at (i := 2) rfl | exact h.at (i := 3) rfl | exact h.old hb) (by first | rfl | assumption)) (.inl rfl) rfl rfl rfl ?_; clear hf; clear a; intro a hf
    first | refine ops_v hf hh (yv_convx (.inl rfl) (by kernel_rfl) Tryz.un_3 rfl (by omega) (by simp only [IntKind.top]; omega)) (.inl rfl) rfl rfl rfl ?_; clear hf; clear a; intro a hf | refine ops_v hf hh (yv_conv (by kernel_rfl) Tryz.un_3 rfl) (.inl rfl) rfl rfl rfl ?_; clear hf; clear a; intro a hf
    refine ops_v hf hh (yv_assign rfl) (.inl rfl) rfl rfl rfl ?_; clear hf; clear a; intro a hf
    refine ops_end ?_
    refine then_n ?_
    refine sy_ret ?_
    refine ret_r hf rfl rfl ?_
    first | exact ⟨rfl, hh.ext⟩ | (exfalso; omega)
theorem c63 (x : Nat) (hx : x < 65536) (hx0 : x ≠ 0) (w : World) (hT : GTab w) : Calls Tryz.prog 60 #[.int .u64 x] w (Ret fun v w' => v = .int .i64 (Lib.ctz 64 x) ∧ Ext [] w w') := by
  refine calls_of Tryz.func60 rfl rfl (fun a hf => ?_)
  have hh := Hp.init w []
  refine sy_seq ?_
  refine sy_ops ?_
  refine ops_v hf hh (yv_assign rfl) (.inl rfl) rfl rfl rfl ?_; clear hf; clear a; intro a hf
  refine ops_end ?_
  refine then_n ?_
  refine sy_seq ?_
  refine sy_cf hf rfl (by first | assumption | rfl | (simp; done)) ?_
  refine sy_skip ?_
  refine then_n ?_
  refine sy_seq ?_
  refine sy_ops ?_
  refine ops_v hf hh (yv_move rfl) (.inl rfl) rfl rfl rfl ?_; clear hf; clear a; intro a hf
  refine ops_call hf Tryz.en_98 rfl rfl rfl (.inl rfl) rfl (c76 x hx hx0 _ (hT.ext hh.ext (by simp))) ?_; clear hf; clear a; intro v a w hR hf
  obtain ⟨rfl, hx⟩ := hR; replace hh := hh.more hx; clear hx
  refine ops_v hf hh (yv_assign rfl) (.inl rfl) rfl rfl rfl ?_; clear hf; clear a; intro a hf
  refine ops_end ?_
  refine then_n ?_
  refine sy_ret ?_
  refine ret_r hf rfl rfl ?_
  exact ⟨rfl, hh.ext⟩
theorem c60 (x y : Nat) (hx : x ≤ 4294967295) (hy : y ≤ 4294967295) (B cap : Nat) (T : TypeId) (w : World) (hB : w.heap[B]? = some (.cells #[.int .u64 x, .int .u64 y] T (0, 0))) : Calls Tryz.prog 110 #[.slice (some ⟨B, 0, none⟩) 2 cap] w (Ret fun v w' => v = .int .u64 ((x ||| y : Nat) : Int) ∧ Ext [] w w') := by
  refine calls_of Tryz.func110 rfl rfl (fun a hf => ?_)
  have hh := Hp.init w []
  have hxy : x ||| y ≤ 4294967295 := by
    have h1 := @Nat.or_lt_two_pow x y 32 (by omega) (by omega)
    omega
  obtain ⟨acc, hacc⟩ : ∃ acc : Nat → Nat, acc = fun k => if k = 0 then 0 else if k = 1 then x else x ||| y := ⟨_, rfl⟩
  obtain ⟨el, hel⟩ : ∃ el : Nat → Nat, el = fun k => if k = 0 then x else y := ⟨_, rfl⟩
  have hle : ∀ k, acc k ≤ 4294967295 := by intro k; subst hacc; simp only; split <;> (try split) <;> omega
  have hel1 : ∀ k, el k ≤ 4294967295 := by intro k; subst hel; simp only; split <;> omega
  refine sy_seq ?_
  refine sy_ops ?_
  refine ops_v hf hh (yv_assign rfl) (.inl rfl) rfl rfl rfl ?_; clear hf; clear a; intro a hf
  refine ops_end ?_
  refine then_n ?_
  refine sy_seq ?_
  refine sy_seq ?_
  refine sy_ops ?_
  refine ops_v hf hh (yv_move rfl) (.inl rfl) rfl rfl rfl ?_; clear hf; clear a; intro a hf
  refine ops_v hf hh (yv_len Tryz.se_202 rfl) (.inl rfl) rfl rfl rfl ?_; clear hf; clear a; intro a hf
  refine ops_v hf hh (yv_move rfl) (.inl rfl) rfl rfl rfl ?_; clear hf; clear a; intro a hf
  refine ops_end ?_
  refine then_n ?_
  refine sy_block ?_
  refine sy_loopF (σ := Nat) [2, 4, 7, 8, 9, 10, 11, 12, 13, 14] (fun k => [(2, .int .u64 (acc k)), (7, .int .i64 k)]) (fun k => k ≤ 2) (fun k => 2 - k) (0) hf hh ?_ ?_ ?_
  · exact ⟨by subst hacc; rfl, rfl, True.intro⟩
  · first | exact True.intro | omega | (simp; omega) | simp
  · rintro k a w hpr hf hh
    have h1 := hle k
    have h2 := hel1 k
    refine sy_seq ?_
    refine sy_ops ?_
    refine ops_v hf hh (yv_bin rfl rfl rfl) (.inl rfl) rfl rfl rfl ?_; clear hf; clear a; intro a hf
    refine ops_end ?_
    refine then_n ?_
    refine sy_seq ?_
    refine sy_cond hf rfl (fun hg2 => ?_) (fun hg2 => ?_)
    · have hG2 := hg2; try simp only [gS] at hG2
      refine sy_skip ?_
      refine then_n ?_
      refine sy_seq ?_
      refine sy_block ?_
      refine sy_seq ?_
      have hcd : (#[.int .u64 x, .int .u64 y] : Array Value)[0 + k * 1]? = some (.int .u64 (el k)) := by
        have : k = 0 ∨ k = 1 := by omega
        subst hel; rcases this with rfl | rfl <;> rfl
      refine sy_ops ?_
      refine ops_v hf hh (yv_indexAddr Tryz.se_202 rfl rfl (by omega) (by omega)) (.inl rfl) rfl rfl rfl ?_; clear hf; clear a; intro a hf
      refine ops_v hf hh (yv_load Tryz.sc_74 rfl (fun _ h => by first | exact h.at (i := 0) rfl | exact h.at (i := 1) rfl | exact h.at (i := 2) rfl | exact h.at (i := 3) rfl | exact h.old hB) (by first | rfl | assumption)) (.inl rfl) rfl rfl rfl ?_; clear hf; clear a; intro a hf
      refine ops_v hf hh (yv_assign rfl) (.inl rfl) rfl rfl rfl ?_; clear hf; clear a; intro a hf
      refine ops_end ?_
      refine then_n ?_
      refine sy_ops ?_
      refine ops_v hf hh (yv_move rfl) (.inl rfl) rfl rfl rfl ?_; clear hf; clear a; intro a hf
      refine ops_v hf hh (yv_move rfl) (.inl rfl) rfl rfl rfl ?_; clear hf; clear a; intro a hf
      first | refine ops_v hf hh (yv_or (.inr rfl) rfl rfl (by omega) (by simp only [IntKind.top]; omega) (by omega) (by simp only [IntKind.top]; omega)) (.inl rfl) rfl rfl rfl ?_; clear hf; clear a; intro a hf | refine ops_v hf hh (yv_bin rfl rfl rfl) (.inl rfl) rfl rfl rfl ?_; clear hf; clear a; intro a hf
      refine ops_v hf hh (yv_assign rfl) (.inl rfl) rfl rfl rfl ?_; clear hf; clear a; intro a hf
      refine ops_end ?_
      refine blk_n ?_
      refine then_n ?_
      refine sy_ops ?_
      first | refine ops_v hf hh (yv_add rfl rfl (by omega) (by omega)) (.inl rfl) rfl rfl rfl ?_; clear hf; clear a; intro a hf | refine ops_v hf hh (yv_bin rfl rfl rfl) (.inl rfl) rfl rfl rfl ?_; clear hf; clear a; intro a hf
      refine ops_v hf hh (yv_move rfl) (.inl rfl) rfl rfl rfl ?_; clear hf; clear a; intro a hf
      refine ops_end ?_
      refine then_n ?_
      have hacc1 : acc (k + 1) = acc k ||| el k := by
        have : k = 0 ∨ k = 1 := by omega
        subst hacc; subst hel; rcases this with rfl | rfl <;> simp
      refine ⟨k + 1, ⟨by omega, hf.head ⟨congrArg (fun z => some (Value.int IntKind.u64 z)) (by rw [hacc1]; rfl), rfl, True.intro⟩ (Keep.cons rfl (Keep.cons rfl (Keep.cons rfl (Keep.cons rfl (Keep.cons rfl (Keep.cons rfl (Keep.cons rfl (Keep.cons rfl (Keep.cons rfl (Keep.cons rfl (Keep.app rfl (Keep.rm rfl Keep.base)))))))))))), hh⟩, by omega⟩
    · have hG2 := hg2; try simp only [gS] at hG2
      refine sy_exit ?_
      refine then_e ?_
      refine then_e ?_
      refine blk_e ?_
      refine then_n ?_
      refine sy_seq ?_
      refine sy_ops ?_
      refine ops_v hf hh (yv_move rfl) (.inl rfl) rfl rfl rfl ?_; clear hf; clear a; intro a hf
      refine ops_v hf hh (yv_assign rfl) (.inl rfl) rfl rfl rfl ?_; clear hf; clear a; intro a hf
      refine ops_end ?_
      refine then_n ?_
      refine sy_ret ?_
      refine ret_r hf rfl rfl ?_
      have : k = 2 := by omega
      subst this
      exact ⟨by subst hacc; rfl, hh.ext⟩
end Go.Proofs.YtccpgpnekoncoaaGreatDoor

namespace Go.BarM
open Go.Sy
def cmpV (x y : Int) : Int := if x < y then -1 else if y < x then 1 else 0
def orV (x y z : Int) : Int := if x ≠ 0 then x else if y ≠ 0 then y else z
/-- Is the first pair of slots better than the other? -/
def befV (n l r n' l' r' : Int) : Bool := decide (n < n' ∨ (n = n' ∧ (r' - l' < r - l ∨ (r' - l' = r - l ∧ l < l'))))
theorem befV_same (n l r : Int) : befV n l r n l r = false := by simp [befV]
theorem befV_or (n l r n' l' r' : Int) : decide (orV (cmpV n n') (cmpV (r' - l') (r - l)) (cmpV l l') < 0) = befV n l r n' l' r' := by
  unfold befV orV cmpV
  by_cases h1 : n < n' <;> by_cases h2 : n' < n <;> by_cases h3 : r' - l' < r - l <;> by_cases h4 : r - l < r' - l' <;> by_cases h5 : l < l' <;> by_cases h6 : l' < l <;> simp [h1, h2, h3, h4, h5, h6] <;> omega
theorem pc_top (m : Nat) : ∀ y : Nat, y < 2 ^ (m + 1) → m < 32 → pc y = pc (y % 2 ^ m) + (if y.testBit m then 1 else 0) := by
  induction m with
  | zero =>
    intro y hy _
    have : y = 0 ∨ y = 1 := by omega
    rcases this with rfl | rfl
    · simp [pc_zero]
    · have := pc_step (n := 1) (by omega)
      simp [pc_zero] at this ⊢; omega
  | succ m ih =>
    intro y hy hm
    have hb : 2 ^ (m + 1 + 1) ≤ 2 ^ 33 := Nat.pow_le_pow_right (by omega) (by omega)
    have h1 := pc_step (n := y) (by omega)
    have h2 := ih (y / 2) (by rw [Nat.pow_succ] at hy; omega) (by omega)
    have h3 := pc_step (n := y % 2 ^ (m + 1)) (by have := Nat.mod_le y (2 ^ (m + 1)); omega)
    have e1 : y % 2 ^ (m + 1) % 2 = y % 2 := Nat.mod_mod_of_dvd _ (by rw [Nat.pow_succ]; exact Nat.dvd_mul_left ..)
    have e2 : y % 2 ^ (m + 1) / 2 = y / 2 % 2 ^ m := by rw [Nat.pow_succ, Nat.mul_comm, Nat.mod_mul_right_div_self]
    have e3 : y.testBit (m + 1) = (y / 2).testBit m := Nat.testBit_succ ..
    rw [e1, e2] at h3
    rw [h1, h2, h3, e3]
    omega
theorem pc_between (p l : Nat) : ∀ n : Nat, l + n < 32 → pc ((p >>> (l + 1)) % 2 ^ n) = between p l (l + 1 + n)
  | 0, _ => by simp [between_start, pc_zero, Nat.mod_one]
  | n + 1, h => by
    have ih := pc_between p l n (by omega)
    have h1 := pc_top n ((p >>> (l + 1)) % 2 ^ (n + 1)) (Nat.mod_lt _ (Nat.pow_pos (by omega))) (by omega)
    have e1 : (p >>> (l + 1)) % 2 ^ (n + 1) % 2 ^ n = (p >>> (l + 1)) % 2 ^ n := Nat.mod_mod_of_dvd _ (Nat.pow_dvd_pow 2 (by omega))
    have e2 : ((p >>> (l + 1)) % 2 ^ (n + 1)).testBit n = p.testBit (l + 1 + n) := by simp [Nat.testBit_mod_two_pow, Nat.testBit_shiftRight]
    rw [h1, e1, e2, ih, ← Nat.add_assoc, between_step _ _ _ (by omega)]
/-- The first scene that is none. -/
def firstBad (l : List Scn) : Int := match l.findIdx? (fun s => !okScn s) with | some i => (i : Int) | none => -1
theorem firstBad_at {l : List Scn} {k : Nat} {s : Scn} (h : ∀ j t, j < k → l[j]? = some t → okScn t = true) (hs : l[k]? = some s) (hb : okScn s = false) : firstBad l = k := by
  have : l.findIdx? (fun s => !okScn s) = some k := by
    obtain ⟨hl, he⟩ := List.getElem?_eq_some_iff.1 hs
    rw [List.findIdx?_eq_some_iff_getElem]
    refine ⟨hl, by rw [he, hb]; rfl, fun j hj => ?_⟩
    have := h j (l[j]'(by omega)) hj (by simp)
    simp [this]
  simp [firstBad, this]
theorem firstBad_none {l : List Scn} (h : ∀ j t, j < l.length → l[j]? = some t → okScn t = true) : firstBad l = -1 := by
  have : l.findIdx? (fun s => !okScn s) = none := by
    rw [List.findIdx?_eq_none_iff]
    intro x hx
    obtain ⟨j, hj⟩ := List.getElem?_of_mem hx
    rw [h j x (List.getElem?_eq_some_iff.1 hj).1 hj]; rfl
  simp [firstBad, this]
theorem firstBad_all (l : List Scn) : decide (0 ≤ firstBad l) = !(l.all okScn) := by
  unfold firstBad
  cases h : l.findIdx? (fun s => !okScn s) with
  | none =>
    rw [List.findIdx?_eq_none_iff] at h
    have : l.all okScn = true := List.all_eq_true.2 fun x hx => by have := h x hx; simpa using this
    rw [this]; rfl
  | some i =>
    rw [List.findIdx?_eq_some_iff_getElem] at h
    obtain ⟨hl, h1, _⟩ := h
    have : l.all okScn = false := by
      cases ha : l.all okScn
      · rfl
      · have := List.all_eq_true.1 ha _ (List.getElem_mem hl); rw [this] at h1; simp at h1
    rw [this]; simp
theorem okBar_last {b : BarD} (s1 : 1 ≤ b.slots) (s2 : b.slots ≤ 16) (p1 : 1 ≤ b.pitch) (p2 : b.pitch ≤ 1000) (k1 : 0 ≤ b.broken) (k2 : b.broken ≤ 2 ^ b.slots.toNat - 1) (m1 : 0 ≤ b.most) (m2 : b.most ≤ 16) (n : (b.scenes.length : Int) ≤ 10) : b.scenes.all okScn = okBar b := by
  have hn : b.scenes.length ≤ 10 := by omega
  simp [okBar, s1, s2, p1, p2, k1, k2, m1, m2, hn]
end Go.BarM

namespace Go.Proofs.YtccpgpnekoncoaaGreatDoor
open Go Go.Sy Go.BarM
theorem c77 (x : Int) (w : World) : Calls Tryz.prog 99 #[.int .i64 x] w (Ret fun v w' => v = .bool false ∧ Ext [] w w') := by
  refine calls_of Tryz.func99 rfl rfl (fun a hf => ?_)
  have hh := Hp.init w []
  refine sy_seq ?_
  refine sy_ops ?_
  refine ops_v hf hh (yv_assign rfl) (.inl rfl) rfl rfl rfl ?_; clear hf; clear a; intro a hf
  refine ops_end ?_
  refine then_n ?_
  refine sy_seq ?_
  refine sy_ops ?_
  refine ops_v hf hh (yv_move rfl) (.inl rfl) rfl rfl rfl ?_; clear hf; clear a; intro a hf
  refine ops_v hf hh (yv_move rfl) (.inl rfl) rfl rfl rfl ?_; clear hf; clear a; intro a hf
  refine ops_v hf hh (yv_bin rfl rfl rfl) (.inl rfl) rfl rfl rfl ?_; clear hf; clear a; intro a hf
  refine ops_v hf hh (yv_assign rfl) (.inl rfl) rfl rfl rfl ?_; clear hf; clear a; intro a hf
  refine ops_end ?_
  refine then_n ?_
  refine sy_ret ?_
  refine ret_r hf rfl rfl ?_
  exact ⟨by simp [tup], hh.ext⟩
theorem c66 (x y : Int) (w : World) : Calls Tryz.prog 63 #[.int .i64 x, .int .i64 y] w (Ret fun v w' => v = .int .i64 (cmpV x y) ∧ Ext [] w w') := by
  refine calls_of Tryz.func63 rfl rfl (fun a hf => ?_)
  have hh := Hp.init w []
  refine sy_seq ?_
  refine sy_ops ?_
  refine ops_v hf hh (yv_assign rfl) (.inl rfl) rfl rfl rfl ?_; clear hf; clear a; intro a hf
  refine ops_end ?_
  refine then_n ?_
  refine sy_seq ?_
  refine sy_ops ?_
  refine ops_v hf hh (yv_move rfl) (.inl rfl) rfl rfl rfl ?_; clear hf; clear a; intro a hf
  refine ops_call hf Tryz.en_99 rfl rfl rfl (.inl rfl) rfl (c77 _ _) ?_; clear hf; clear a; intro v a w hR hf
  obtain ⟨rfl, hx⟩ := hR; replace hh := hh.more hx; clear hx
  refine ops_v hf hh (yv_assign rfl) (.inl rfl) rfl rfl rfl ?_; clear hf; clear a; intro a hf
  refine ops_end ?_
  refine then_n ?_
  refine sy_seq ?_
  refine sy_ops ?_
  refine ops_v hf hh (yv_move rfl) (.inl rfl) rfl rfl rfl ?_; clear hf; clear a; intro a hf
  refine ops_call hf Tryz.en_99 rfl rfl rfl (.inl rfl) rfl (c77 _ _) ?_; clear hf; clear a; intro v a w hR hf
  obtain ⟨rfl, hx⟩ := hR; replace hh := hh.more hx; clear hx
  refine ops_v hf hh (yv_assign rfl) (.inl rfl) rfl rfl rfl ?_; clear hf; clear a; intro a hf
  refine ops_end ?_
  refine then_n ?_
  refine sy_seq ?_
  refine sy_seq ?_
  refine sy_ops ?_
  refine ops_v hf hh (yv_move rfl) (.inl rfl) rfl rfl rfl ?_; clear hf; clear a; intro a hf
  refine ops_end ?_
  refine then_n ?_
  refine sy_cf hf rfl (by first | assumption | rfl | (simp; done)) ?_
  refine sy_skip ?_
  refine then_n ?_
  refine sy_seq ?_
  refine sy_seq ?_
  refine sy_ops ?_
  refine ops_v hf hh (yv_move rfl) (.inl rfl) rfl rfl rfl ?_; clear hf; clear a; intro a hf
  refine ops_end ?_
  refine then_n ?_
  refine sy_cf hf rfl (by first | assumption | rfl | (simp; done)) ?_
  refine sy_skip ?_
  refine then_n ?_
  refine sy_seq ?_
  refine sy_seq ?_
  refine sy_ops ?_
  refine ops_v hf hh (yv_move rfl) (.inl rfl) rfl rfl rfl ?_; clear hf; clear a; intro a hf
  refine ops_v hf hh (yv_move rfl) (.inl rfl) rfl rfl rfl ?_; clear hf; clear a; intro a hf
  refine ops_v hf hh (yv_bin rfl rfl rfl) (.inl rfl) rfl rfl rfl ?_; clear hf; clear a; intro a hf
  refine ops_end ?_
  refine then_n ?_
  refine sy_cond hf rfl (fun hg4 => ?_) (fun hg4 => ?_)
  · have hG4 := hg4; try simp only [gS] at hG4
    refine sy_seq ?_
    refine sy_ops ?_
    refine ops_v hf hh (yv_assign rfl) (.inl rfl) rfl rfl rfl ?_; clear hf; clear a; intro a hf
    refine ops_end ?_
    refine then_n ?_
    refine sy_ret ?_
    refine then_r ?_
    refine ret_r hf rfl rfl ?_
    exact ⟨intv (by unfold cmpV; (repeat' split) <;> omega), hh.ext⟩
  · have hG4 := hg4; try simp only [gS] at hG4
    refine sy_skip ?_
    refine then_n ?_
    refine sy_seq ?_
    refine sy_seq ?_
    refine sy_ops ?_
    refine ops_v hf hh (yv_move rfl) (.inl rfl) rfl rfl rfl ?_; clear hf; clear a; intro a hf
    refine ops_v hf hh (yv_move rfl) (.inl rfl) rfl rfl rfl ?_; clear hf; clear a; intro a hf
    refine ops_v hf hh (yv_bin rfl rfl rfl) (.inl rfl) rfl rfl rfl ?_; clear hf; clear a; intro a hf
    refine ops_end ?_
    refine then_n ?_
    refine sy_cond hf rfl (fun hg6 => ?_) (fun hg6 => ?_)
    · have hG6 := hg6; try simp only [gS] at hG6
      refine sy_seq ?_
      refine sy_ops ?_
      refine ops_v hf hh (yv_assign rfl) (.inl rfl) rfl rfl rfl ?_; clear hf; clear a; intro a hf
      refine ops_end ?_
      refine then_n ?_
      refine sy_ret ?_
      refine then_r ?_
      refine ret_r hf rfl rfl ?_
      exact ⟨intv (by unfold cmpV; (repeat' split) <;> omega), hh.ext⟩
    · have hG6 := hg6; try simp only [gS] at hG6
      refine sy_skip ?_
      refine then_n ?_
      refine sy_seq ?_
      refine sy_ops ?_
      refine ops_v hf hh (yv_assign rfl) (.inl rfl) rfl rfl rfl ?_; clear hf; clear a; intro a hf
      refine ops_end ?_
      refine then_n ?_
      refine sy_ret ?_
      refine ret_r hf rfl rfl ?_
      exact ⟨intv (by unfold cmpV; (repeat' split) <;> omega), hh.ext⟩
theorem c65 (x y z : Int) (B cap : Nat) (T : TypeId) (w : World) (hB : w.heap[B]? = some (.cells #[.int .i64 x, .int .i64 y, .int .i64 z] T (0, 0))) : Calls Tryz.prog 62 #[.slice (some ⟨B, 0, none⟩) 3 cap] w (Ret fun v w' => v = .int .i64 (orV x y z) ∧ Ext [] w w') := by
  refine calls_of Tryz.func62 rfl rfl (fun a hf => ?_)
  have hh := Hp.init w []
  obtain ⟨el, hel⟩ : ∃ el : Nat → Int, el = fun k => if k = 0 then x else if k = 1 then y else z := ⟨_, rfl⟩
  refine sy_seq ?_
  refine sy_ops ?_
  refine ops_v hf hh (yv_assign rfl) (.inl rfl) rfl rfl rfl ?_; clear hf; clear a; intro a hf
  refine ops_end ?_
  refine then_n ?_
  refine sy_seq ?_
  refine sy_ops ?_
  refine ops_v hf hh (yv_assign rfl) (.inl rfl) rfl rfl rfl ?_; clear hf; clear a; intro a hf
  refine ops_end ?_
  refine then_n ?_
  refine sy_seq ?_
  refine sy_seq ?_
  refine sy_ops ?_
  refine ops_v hf hh (yv_move rfl) (.inl rfl) rfl rfl rfl ?_; clear hf; clear a; intro a hf
  refine ops_v hf hh (yv_len Tryz.se_108 rfl) (.inl rfl) rfl rfl rfl ?_; clear hf; clear a; intro a hf
  refine ops_v hf hh (yv_move rfl) (.inl rfl) rfl rfl rfl ?_; clear hf; clear a; intro a hf
  refine ops_end ?_
  refine then_n ?_
  refine sy_block ?_
  refine sy_loopF (σ := Nat) [2, 5, 8, 9, 10, 11, 12, 13, 14, 15, 16] (fun k => [(8, .int .i64 k)]) (fun k => k ≤ 3 ∧ ∀ j, j < k → el j = 0) (fun k => 3 - k) (0) hf hh ?_ ?_ ?_
  · repeat' (first | exact True.intro | refine And.intro rfl ?_)
  · exact ⟨by omega, fun j hj => by omega⟩
  · rintro k a w ⟨hq1, hq2⟩ hf hh
    refine sy_seq ?_
    refine sy_ops ?_
    refine ops_v hf hh (yv_bin rfl rfl rfl) (.inl rfl) rfl rfl rfl ?_; clear hf; clear a; intro a hf
    refine ops_end ?_
    refine then_n ?_
    refine sy_seq ?_
    refine sy_cond hf rfl (fun hg2 => ?_) (fun hg2 => ?_)
    · have hG2 := hg2; try simp only [gS] at hG2
      refine sy_skip ?_
      refine then_n ?_
      refine sy_seq ?_
      refine sy_block ?_
      refine sy_seq ?_
      have hcd : (#[.int .i64 x, .int .i64 y, .int .i64 z] : Array Value)[0 + k * 1]? = some (.int .i64 (el k)) := by
        have : k = 0 ∨ k = 1 ∨ k = 2 := by omega
        subst hel; rcases this with rfl | rfl | rfl <;> rfl
      refine sy_ops ?_
      refine ops_v hf hh (yv_indexAddr Tryz.se_108 rfl rfl (by omega) (by omega)) (.inl rfl) rfl rfl rfl ?_; clear hf; clear a; intro a hf
      refine ops_v hf hh (yv_load Tryz.sc_3 rfl (fun _ h => by first | exact h.at (i := 0) rfl | exact h.at (i := 1) rfl | exact h.at (i := 2) rfl | exact h.at (i := 3) rfl | exact h.old hB) (by first | rfl | assumption)) (.inl rfl) rfl rfl rfl ?_; clear hf; clear a; intro a hf
      refine ops_v hf hh (yv_assign rfl) (.inl rfl) rfl rfl rfl ?_; clear hf; clear a; intro a hf
      refine ops_end ?_
      refine then_n ?_
      refine sy_seq ?_
      refine sy_ops ?_
      refine ops_v hf hh (yv_move rfl) (.inl rfl) rfl rfl rfl ?_; clear hf; clear a; intro a hf
      refine ops_v hf hh (yv_move rfl) (.inl rfl) rfl rfl rfl ?_; clear hf; clear a; intro a hf
      refine ops_v hf hh (yv_bin rfl rfl rfl) (.inl rfl) rfl rfl rfl ?_; clear hf; clear a; intro a hf
      refine ops_end ?_
      refine then_n ?_
      refine sy_cond hf rfl (fun hg4 => ?_) (fun hg4 => ?_)
      · have hG4 := hg4; try simp only [gS] at hG4
        refine sy_seq ?_
        refine sy_ops ?_
        refine ops_v hf hh (yv_move rfl) (.inl rfl) rfl rfl rfl ?_; clear hf; clear a; intro a hf
        refine ops_v hf hh (yv_assign rfl) (.inl rfl) rfl rfl rfl ?_; clear hf; clear a; intro a hf
        refine ops_end ?_
        refine then_n ?_
        refine sy_ret ?_
        refine blk_r ?_
        refine then_r ?_
        refine then_r ?_
        refine blk_r ?_
        refine then_r ?_
        refine ret_r hf rfl rfl ?_
        refine ⟨intv ?_, hh.ext⟩
        have e0 := hq2 0; have e1 := hq2 1; have e2 := hq2 2
        have : k = 0 ∨ k = 1 ∨ k = 2 ∨ k = 3 := by omega
        clear hh hf hB
        subst hel
        unfold orV
        rcases this with rfl | rfl | rfl | rfl <;> simp_all
      · have hG4 := hg4; try simp only [gS] at hG4
        refine sy_skip ?_
        refine blk_n ?_
        refine then_n ?_
        refine sy_ops ?_
        first | refine ops_v hf hh (yv_add rfl rfl (by omega) (by omega)) (.inl rfl) rfl rfl rfl ?_; clear hf; clear a; intro a hf | refine ops_v hf hh (yv_bin rfl rfl rfl) (.inl rfl) rfl rfl rfl ?_; clear hf; clear a; intro a hf
        refine ops_v hf hh (yv_move rfl) (.inl rfl) rfl rfl rfl ?_; clear hf; clear a; intro a hf
        refine ops_end ?_
        refine then_n ?_
        refine ⟨k + 1, ⟨⟨by omega, fun j hj => ?_⟩, hf.head ⟨rfl, True.intro⟩ (Keep.cons rfl (Keep.cons rfl (Keep.cons rfl (Keep.cons rfl (Keep.cons rfl (Keep.cons rfl (Keep.cons rfl (Keep.cons rfl (Keep.cons rfl (Keep.app rfl (Keep.rm rfl Keep.base))))))))))), hh⟩, by omega⟩
        by_cases hjk : j = k
        · subst hjk; assumption
        · exact hq2 j (by omega)
    · have hG2 := hg2; try simp only [gS] at hG2
      refine sy_exit ?_
      refine then_e ?_
      refine then_e ?_
      refine blk_e ?_
      refine then_n ?_
      refine sy_seq ?_
      refine sy_ops ?_
      refine ops_v hf hh (yv_move rfl) (.inl rfl) rfl rfl rfl ?_; clear hf; clear a; intro a hf
      refine ops_v hf hh (yv_assign rfl) (.inl rfl) rfl rfl rfl ?_; clear hf; clear a; intro a hf
      refine ops_end ?_
      refine then_n ?_
      refine sy_ret ?_
      refine ret_r hf rfl rfl ?_
      refine ⟨intv ?_, hh.ext⟩
      have e0 := hq2 0; have e1 := hq2 1; have e2 := hq2 2
      have : k = 0 ∨ k = 1 ∨ k = 2 ∨ k = 3 := by omega
      clear hh hf hB
      subst hel
      unfold orV
      rcases this with rfl | rfl | rfl | rfl <;> simp_all
theorem c43 (n l r n' l' r' : Int) (w : World) (h1 : 0 ≤ l) (h2 : l ≤ r) (h3 : r ≤ 62) (h4 : 0 ≤ l') (h5 : l' ≤ r') (h6 : r' ≤ 62) : Calls Tryz.prog 25 #[.agg #[.int .i64 n, .int .i64 l, .int .i64 r], .agg #[.int .i64 n', .int .i64 l', .int .i64 r']] w
    (Ret fun v w' => v = .bool (befV n l r n' l' r') ∧ Ext [] w w') := by
  refine calls_of Tryz.func25 rfl rfl (fun a hf => ?_)
  have hh := Hp.init w []
  refine sy_seq ?_
  refine sy_ops ?_
  refine ops_box hf hh rfl (.inl rfl) rfl ?_; clear hf hh; clear a; intro B2 a w hf hh
  refine ops_box hf hh rfl (.inl rfl) rfl ?_; clear hf hh; clear a; intro B3 a w hf hh
  refine ops_v hf hh (yv_assign rfl) (.inl rfl) rfl rfl rfl ?_; clear hf; clear a; intro a hf
  refine ops_end ?_
  refine then_n ?_
  refine sy_seq ?_
  refine sy_seq ?_
  refine sy_ops ?_
  refine ops_v hf hh (yv_loads Tryz.ag_70 rfl (fun _ h => by first | exact h.at (i := 0) rfl | exact h.at (i := 1) rfl | exact h.at (i := 2) rfl) (by first | assumption | rfl)) (.inl rfl) rfl rfl rfl ?_; clear hf; clear a; intro a hf
  refine ops_v hf hh (yv_loads Tryz.ag_70 rfl (fun _ h => by first | exact h.at (i := 0) rfl | exact h.at (i := 1) rfl | exact h.at (i := 2) rfl) (by first | assumption | rfl)) (.inl rfl) rfl rfl rfl ?_; clear hf; clear a; intro a hf
  refine ops_v hf hh (yv_eq3 (by kernel_rfl) rfl rfl) (.inl rfl) rfl rfl rfl ?_; clear hf; clear a; intro a hf
  refine ops_end ?_
  refine then_n ?_
  refine sy_cond hf rfl (fun hg2 => ?_) (fun hg2 => ?_)
  · have hG2 := hg2; try simp only [gS] at hG2
    refine sy_seq ?_
    refine sy_ops ?_
    refine ops_v hf hh (yv_assign rfl) (.inl rfl) rfl rfl rfl ?_; clear hf; clear a; intro a hf
    refine ops_end ?_
    refine then_n ?_
    refine sy_ret ?_
    refine then_r ?_
    refine ret_r hf rfl rfl ?_
    refine ⟨congrArg Value.bool ?_, hh.ext⟩
    first
      | exact befV_or n l r n' l' r'
      | (have hG := ‹n = n' ∧ l = l' ∧ r = r'›; obtain ⟨rfl, rfl, rfl⟩ := hG; exact (befV_same _ _ _).symm)
  · have hG2 := hg2; try simp only [gS] at hG2
    refine sy_skip ?_
    refine then_n ?_
    refine sy_seq ?_
    refine sy_tail (C := Hp _ _ _) 21 Tryz.follows (by kernel_rfl) rfl rfl (hh.drawn _) ?_
    refine q_v hf (yv_fieldAddr Tryz.fo_70_0 rfl) (.inl rfl) rfl rfl ?_; clear hf; clear a; intro a hf
    refine q_v hf (yv_load Tryz.sc_3 rfl (fun _ h => by first | exact h.at (i := 0) rfl | exact h.at (i := 1) rfl | exact h.at (i := 2) rfl) (by first | rfl | assumption)) (.inl rfl) rfl rfl ?_; clear hf; clear a; intro a hf
    refine q_v hf (yv_fieldAddr Tryz.fo_70_0 rfl) (.inl rfl) rfl rfl ?_; clear hf; clear a; intro a hf
    refine q_v hf (yv_load Tryz.sc_3 rfl (fun _ h => by first | exact h.at (i := 0) rfl | exact h.at (i := 1) rfl | exact h.at (i := 2) rfl) (by first | rfl | assumption)) (.inl rfl) rfl rfl ?_; clear hf; clear a; intro a hf
    refine q_callE hf Tryz.en_63 rfl rfl rfl (.inl rfl) rfl (fun w hh => c66 _ _ _) ?_; clear hf; clear a; intro a hf
    refine q_v hf (yv_fieldAddr Tryz.fo_70_2 rfl) (.inl rfl) rfl rfl ?_; clear hf; clear a; intro a hf
    refine q_v hf (yv_load Tryz.sc_3 rfl (fun _ h => by first | exact h.at (i := 0) rfl | exact h.at (i := 1) rfl | exact h.at (i := 2) rfl) (by first | rfl | assumption)) (.inl rfl) rfl rfl ?_; clear hf; clear a; intro a hf
    refine q_v hf (yv_fieldAddr Tryz.fo_70_1 rfl) (.inl rfl) rfl rfl ?_; clear hf; clear a; intro a hf
    refine q_v hf (yv_load Tryz.sc_3 rfl (fun _ h => by first | exact h.at (i := 0) rfl | exact h.at (i := 1) rfl | exact h.at (i := 2) rfl) (by first | rfl | assumption)) (.inl rfl) rfl rfl ?_; clear hf; clear a; intro a hf
    first | refine q_v hf (yv_sub rfl rfl (by omega) (by omega)) (.inl rfl) rfl rfl ?_; clear hf; clear a; intro a hf | refine q_v hf (yv_bin rfl rfl rfl) (.inl rfl) rfl rfl ?_; clear hf; clear a; intro a hf
    refine q_v hf (yv_fieldAddr Tryz.fo_70_2 rfl) (.inl rfl) rfl rfl ?_; clear hf; clear a; intro a hf
    refine q_v hf (yv_load Tryz.sc_3 rfl (fun _ h => by first | exact h.at (i := 0) rfl | exact h.at (i := 1) rfl | exact h.at (i := 2) rfl) (by first | rfl | assumption)) (.inl rfl) rfl rfl ?_; clear hf; clear a; intro a hf
    refine q_v hf (yv_fieldAddr Tryz.fo_70_1 rfl) (.inl rfl) rfl rfl ?_; clear hf; clear a; intro a hf
    refine q_v hf (yv_load Tryz.sc_3 rfl (fun _ h => by first | exact h.at (i := 0) rfl | exact h.at (i := 1) rfl | exact h.at (i := 2) rfl) (by first | rfl | assumption)) (.inl rfl) rfl rfl ?_; clear hf; clear a; intro a hf
    first | refine q_v hf (yv_sub rfl rfl (by omega) (by omega)) (.inl rfl) rfl rfl ?_; clear hf; clear a; intro a hf | refine q_v hf (yv_bin rfl rfl rfl) (.inl rfl) rfl rfl ?_; clear hf; clear a; intro a hf
    refine q_callE hf Tryz.en_63 rfl rfl rfl (.inl rfl) rfl (fun w hh => c66 _ _ _) ?_; clear hf; clear a; intro a hf
    refine q_v hf (yv_fieldAddr Tryz.fo_70_1 rfl) (.inl rfl) rfl rfl ?_; clear hf; clear a; intro a hf
    refine q_v hf (yv_load Tryz.sc_3 rfl (fun _ h => by first | exact h.at (i := 0) rfl | exact h.at (i := 1) rfl | exact h.at (i := 2) rfl) (by first | rfl | assumption)) (.inl rfl) rfl rfl ?_; clear hf; clear a; intro a hf
    refine q_v hf (yv_fieldAddr Tryz.fo_70_1 rfl) (.inl rfl) rfl rfl ?_; clear hf; clear a; intro a hf
    refine q_v hf (yv_load Tryz.sc_3 rfl (fun _ h => by first | exact h.at (i := 0) rfl | exact h.at (i := 1) rfl | exact h.at (i := 2) rfl) (by first | rfl | assumption)) (.inl rfl) rfl rfl ?_; clear hf; clear a; intro a hf
    refine q_callE hf Tryz.en_63 rfl rfl rfl (.inl rfl) rfl (fun w hh => c66 _ _ _) ?_; clear hf; clear a; intro a hf
    refine q_end fun w hh => ?_
    refine ops_buildSl hf hh Tryz.bl_108_3 rfl rfl (.inl rfl) rfl ?_; clear hf hh; clear a; intro B29 a w hf hh
    refine ops_call hf Tryz.en_62 rfl rfl rfl (.inl rfl) rfl (c65 _ _ _ _ _ _ _ (hh.at (i := 0) rfl)) ?_; clear hf; clear a; intro v a w hR hf
    obtain ⟨rfl, hx⟩ := hR; replace hh := hh.more hx; clear hx
    refine ops_v hf hh (yv_bin rfl rfl rfl) (.inl rfl) rfl rfl rfl ?_; clear hf; clear a; intro a hf
    refine ops_v hf hh (yv_assign rfl) (.inl rfl) rfl rfl rfl ?_; clear hf; clear a; intro a hf
    refine ops_end ?_
    refine then_n ?_
    refine sy_ret ?_
    refine ret_r hf rfl rfl ?_
    refine ⟨congrArg Value.bool ?_, hh.ext⟩
    first
      | exact befV_or n l r n' l' r'
      | (have hG := ‹n = n' ∧ l = l' ∧ r = r'›; obtain ⟨rfl, rfl, rfl⟩ := hG; exact (befV_same _ _ _).symm)
theorem c64 (p l r : Nat) (w : World) (hp : p < 65536) (hl : l < r) (hr : r ≤ 30) : Calls Tryz.prog 61 #[.int .u64 p, .int .i64 l, .int .i64 r] w (Ret fun v w' => v = .int .i64 (between p l r) ∧ Ext [] w w') := by
  refine calls_of Tryz.func61 rfl rfl (fun a hf => ?_)
  have hh := Hp.init w []
  obtain ⟨q, hq⟩ : ∃ q, q = p >>> (l + 1) := ⟨_, rfl⟩
  obtain ⟨m, hm⟩ : ∃ m, m = 2 ^ (r - l - 1) := ⟨_, rfl⟩
  have hsl : q ≤ p := by rw [hq]; exact Nat.shiftRight_le p (l + 1)
  have hpp : m ≤ 2 ^ 30 := by rw [hm]; exact Nat.pow_le_pow_right (by omega) (by omega)
  have hp1 : 1 ≤ m := by rw [hm]; exact Nat.one_le_two_pow
  have hb : q % m < 65536 := by
    have e1 := Nat.mod_le q m
    omega
  refine sy_seq ?_
  refine sy_ops ?_
  refine ops_v hf hh (yv_assign rfl) (.inl rfl) rfl rfl rfl ?_; clear hf; clear a; intro a hf
  refine ops_end ?_
  refine then_n ?_
  refine sy_seq ?_
  refine sy_quiet (C := Hp _ _ _) Tryz.follows (by kernel_rfl) (hh.drawn _) ?_
  refine q_v hf (yv_move rfl) (.inl rfl) rfl rfl ?_; clear hf; clear a; intro a hf
  refine q_v hf (yv_move rfl) (.inl rfl) rfl rfl ?_; clear hf; clear a; intro a hf
  first | refine q_v hf (yv_add rfl rfl (by omega) (by omega)) (.inl rfl) rfl rfl ?_; clear hf; clear a; intro a hf | refine q_v hf (yv_bin rfl rfl rfl) (.inl rfl) rfl rfl ?_; clear hf; clear a; intro a hf
  refine q_v hf (yv_cast (yv_shrx (.inr rfl) rfl rfl (by omega) (by omega) (by omega)) (intv (b := (q : Int)) (by rw [hq, show ((p : Int)).toNat = p from rfl, show ((l : Int) + 1).toNat = l + 1 from by omega]))) (.inl rfl) rfl rfl ?_; clear hf; clear a; intro a hf
  refine q_v hf (yv_move rfl) (.inl rfl) rfl rfl ?_; clear hf; clear a; intro a hf
  refine q_v hf (yv_move rfl) (.inl rfl) rfl rfl ?_; clear hf; clear a; intro a hf
  first | refine q_v hf (yv_sub rfl rfl (by omega) (by omega)) (.inl rfl) rfl rfl ?_; clear hf; clear a; intro a hf | refine q_v hf (yv_bin rfl rfl rfl) (.inl rfl) rfl rfl ?_; clear hf; clear a; intro a hf
  first | refine q_v hf (yv_sub rfl rfl (by omega) (by omega)) (.inl rfl) rfl rfl ?_; clear hf; clear a; intro a hf | refine q_v hf (yv_bin rfl rfl rfl) (.inl rfl) rfl rfl ?_; clear hf; clear a; intro a hf
  refine q_v hf (yv_cast (yv_shl1 (.inr rfl) rfl rfl (by omega) (by omega)) (intv (b := (m : Int)) (by rw [hm, show ((r : Int) - l - 1).toNat = r - l - 1 from by omega]))) (.inl rfl) rfl rfl ?_; clear hf; clear a; intro a hf
  refine q_v hf (yv_cast (yv_subx (.inr rfl) rfl rfl (by omega) (by simp only [IntKind.top]; omega)) (intv (b := ((m - 1 : Nat) : Int)) (by omega))) (.inl rfl) rfl rfl ?_; clear hf; clear a; intro a hf
  refine q_v hf (yv_cast (yv_and (.inr rfl) rfl rfl (by omega) (by simp only [IntKind.top]; omega) (by omega) (by simp only [IntKind.top]; omega)) (intv (b := ((q % m : Nat) : Int)) (by rw [Int.toNat_natCast, Int.toNat_natCast, hm, Nat.and_two_pow_sub_one_eq_mod]))) (.inl rfl) rfl rfl ?_; clear hf; clear a; intro a hf
  refine q_callE hf Tryz.en_57 rfl rfl rfl (.inl rfl) rfl (fun w hh => c53 _ hb _) ?_; clear hf; clear a; intro a hf
  refine q_v hf (yv_assign rfl) (.inl rfl) rfl rfl ?_; clear hf; clear a; intro a hf
  refine q_end fun w hh => ?_
  refine then_n ?_
  refine sy_ret ?_
  refine ret_r hf rfl rfl ?_
  refine ⟨intv ?_, hh.ext⟩
  rw [hq, hm, pc_between p l (r - l - 1) (by omega), show l + 1 + (r - l - 1) = r by omega]
theorem c73 (s : Scn) (w : World) : Calls Tryz.prog 94 #[.agg #[.int .i64 s.least, .int .i64 s.most, .int .i64 s.calm]] w (Ret fun v w' => v = .bool (!okScn s) ∧ Ext [] w w') := by
  refine calls_of Tryz.func94 rfl rfl (fun a hf => ?_)
  have hh := Hp.init w []
  refine sy_seq ?_
  refine sy_ops ?_
  refine ops_box hf hh rfl (.inl rfl) rfl ?_; clear hf hh; clear a; intro B1 a w hf hh
  refine ops_v hf hh (yv_assign rfl) (.inl rfl) rfl rfl rfl ?_; clear hf; clear a; intro a hf
  refine ops_end ?_
  refine then_n ?_
  refine sy_seq ?_
  refine sy_ops ?_
  refine ops_v hf hh (yv_fieldAddr Tryz.fo_33_0 rfl) (.inl rfl) rfl rfl rfl ?_; clear hf; clear a; intro a hf
  refine ops_v hf hh (yv_load Tryz.sc_3 rfl (fun _ h => by first | exact h.at (i := 0) rfl | exact h.at (i := 1) rfl | exact h.at (i := 2) rfl | exact h.at (i := 3) rfl) (by first | rfl | assumption)) (.inl rfl) rfl rfl rfl ?_; clear hf; clear a; intro a hf
  refine ops_call hf Tryz.en_22 rfl rfl rfl (.inl rfl) rfl (c40 _ _ _ _) ?_; clear hf; clear a; intro v a w hR hf
  obtain ⟨rfl, hx⟩ := hR; replace hh := hh.more hx; clear hx
  refine ops_v hf hh (yv_not rfl) (.inl rfl) rfl rfl rfl ?_; clear hf; clear a; intro a hf
  refine ops_v hf hh (yv_move rfl) (.inl rfl) rfl rfl rfl ?_; clear hf; clear a; intro a hf
  refine guard_split hf (t := 7) rfl (fun hg2 => ?_) (fun hg2 => ?_)
  · have hG2 := hg2; try simp only [gS] at hG2
    refine ops_off hf (goff rfl rfl rfl (by first | assumption | rfl | (simp; done))) rfl rfl ?_; clear hf; clear a; intro a hf
    refine ops_off hf (goff rfl rfl rfl (by first | assumption | rfl | (simp; done))) rfl rfl ?_; clear hf; clear a; intro a hf
    refine ops_off hf (goff rfl rfl rfl (by first | assumption | rfl | (simp; done))) rfl rfl ?_; clear hf; clear a; intro a hf
    refine ops_off hf (goff rfl rfl rfl (by first | assumption | rfl | (simp; done))) rfl rfl ?_; clear hf; clear a; intro a hf
    refine ops_off hf (goff rfl rfl rfl (by first | assumption | rfl | (simp; done))) rfl rfl ?_; clear hf; clear a; intro a hf
    refine ops_off hf (goff rfl rfl rfl (by first | assumption | rfl | (simp; done))) rfl rfl ?_; clear hf; clear a; intro a hf
    refine ops_v hf hh (yv_pick_t rfl (by first | assumption | rfl | (simp; done)) rfl) (.inl rfl) rfl rfl rfl ?_; clear hf; clear a; intro a hf
    refine ops_v hf hh (yv_move rfl) (.inl rfl) rfl rfl rfl ?_; clear hf; clear a; intro a hf
    refine ops_off hf (goff rfl rfl rfl (by first | assumption | rfl | (simp; done))) rfl rfl ?_; clear hf; clear a; intro a hf
    refine ops_off hf (goff rfl rfl rfl (by first | assumption | rfl | (simp; done))) rfl rfl ?_; clear hf; clear a; intro a hf
    refine ops_off hf (goff rfl rfl rfl (by first | assumption | rfl | (simp; done))) rfl rfl ?_; clear hf; clear a; intro a hf
    refine ops_off hf (goff rfl rfl rfl (by first | assumption | rfl | (simp; done))) rfl rfl ?_; clear hf; clear a; intro a hf
    refine ops_v hf hh (yv_pick_t rfl (by first | assumption | rfl | (simp; done)) rfl) (.inl rfl) rfl rfl rfl ?_; clear hf; clear a; intro a hf
    refine ops_v hf hh (yv_assign rfl) (.inl rfl) rfl rfl rfl ?_; clear hf; clear a; intro a hf
    refine ops_end ?_
    refine then_n ?_
    refine sy_ret ?_
    refine ret_r hf rfl rfl ?_
    refine ⟨congrArg Value.bool ?_, hh.ext⟩
    first | (simp [okScn, *]; done) | (simp [okScn]; omega)
  · have hG2 := hg2; try simp only [gS] at hG2
    refine ops_v hf hh (yv_fieldAddr Tryz.fo_33_1 rfl) (gon rfl rfl rfl (by first | assumption | rfl | (simp; done))) rfl rfl rfl ?_; clear hf; clear a; intro a hf
    refine ops_v hf hh (yv_load Tryz.sc_3 rfl (fun _ h => by first | exact h.at (i := 0) rfl | exact h.at (i := 1) rfl | exact h.at (i := 2) rfl | exact h.at (i := 3) rfl) (by first | rfl | assumption)) (gon rfl rfl rfl (by first | assumption | rfl | (simp; done))) rfl rfl rfl ?_; clear hf; clear a; intro a hf
    refine ops_v hf hh (yv_fieldAddr Tryz.fo_33_0 rfl) (gon rfl rfl rfl (by first | assumption | rfl | (simp; done))) rfl rfl rfl ?_; clear hf; clear a; intro a hf
    refine ops_v hf hh (yv_load Tryz.sc_3 rfl (fun _ h => by first | exact h.at (i := 0) rfl | exact h.at (i := 1) rfl | exact h.at (i := 2) rfl | exact h.at (i := 3) rfl) (by first | rfl | assumption)) (gon rfl rfl rfl (by first | assumption | rfl | (simp; done))) rfl rfl rfl ?_; clear hf; clear a; intro a hf
    refine ops_call hf Tryz.en_22 rfl rfl rfl (gon rfl rfl rfl (by first | assumption | rfl | (simp; done))) rfl (c40 _ _ _ _) ?_; clear hf; clear a; intro v a w hR hf
    obtain ⟨rfl, hx⟩ := hR; replace hh := hh.more hx; clear hx
    refine ops_v hf hh (yv_not rfl) (gon rfl rfl rfl (by first | assumption | rfl | (simp; done))) rfl rfl rfl ?_; clear hf; clear a; intro a hf
    refine ops_v hf hh (yv_pick_f rfl (by first | assumption | rfl | (simp; done)) rfl) (.inl rfl) rfl rfl rfl ?_; clear hf; clear a; intro a hf
    refine ops_v hf hh (yv_move rfl) (.inl rfl) rfl rfl rfl ?_; clear hf; clear a; intro a hf
    refine guard_split hf (t := 15) rfl (fun hg4 => ?_) (fun hg4 => ?_)
    · have hG4 := hg4; try simp only [gS] at hG4
      refine ops_off hf (goff rfl rfl rfl (by first | assumption | rfl | (simp; done))) rfl rfl ?_; clear hf; clear a; intro a hf
      refine ops_off hf (goff rfl rfl rfl (by first | assumption | rfl | (simp; done))) rfl rfl ?_; clear hf; clear a; intro a hf
      refine ops_off hf (goff rfl rfl rfl (by first | assumption | rfl | (simp; done))) rfl rfl ?_; clear hf; clear a; intro a hf
      refine ops_off hf (goff rfl rfl rfl (by first | assumption | rfl | (simp; done))) rfl rfl ?_; clear hf; clear a; intro a hf
      refine ops_v hf hh (yv_pick_t rfl (by first | assumption | rfl | (simp; done)) rfl) (.inl rfl) rfl rfl rfl ?_; clear hf; clear a; intro a hf
      refine ops_v hf hh (yv_assign rfl) (.inl rfl) rfl rfl rfl ?_; clear hf; clear a; intro a hf
      refine ops_end ?_
      refine then_n ?_
      refine sy_ret ?_
      refine ret_r hf rfl rfl ?_
      refine ⟨congrArg Value.bool ?_, hh.ext⟩
      first | (simp [okScn, *]; done) | (simp [okScn]; omega)
    · have hG4 := hg4; try simp only [gS] at hG4
      refine ops_v hf hh (yv_fieldAddr Tryz.fo_33_2 rfl) (gon rfl rfl rfl (by first | assumption | rfl | (simp; done))) rfl rfl rfl ?_; clear hf; clear a; intro a hf
      refine ops_v hf hh (yv_load Tryz.sc_3 rfl (fun _ h => by first | exact h.at (i := 0) rfl | exact h.at (i := 1) rfl | exact h.at (i := 2) rfl | exact h.at (i := 3) rfl) (by first | rfl | assumption)) (gon rfl rfl rfl (by first | assumption | rfl | (simp; done))) rfl rfl rfl ?_; clear hf; clear a; intro a hf
      refine ops_call hf Tryz.en_22 rfl rfl rfl (gon rfl rfl rfl (by first | assumption | rfl | (simp; done))) rfl (c40 _ _ _ _) ?_; clear hf; clear a; intro v a w hR hf
      obtain ⟨rfl, hx⟩ := hR; replace hh := hh.more hx; clear hx
      refine ops_v hf hh (yv_not rfl) (gon rfl rfl rfl (by first | assumption | rfl | (simp; done))) rfl rfl rfl ?_; clear hf; clear a; intro a hf
      refine ops_v hf hh (yv_pick_f rfl (by first | assumption | rfl | (simp; done)) rfl) (.inl rfl) rfl rfl rfl ?_; clear hf; clear a; intro a hf
      refine ops_v hf hh (yv_assign rfl) (.inl rfl) rfl rfl rfl ?_; clear hf; clear a; intro a hf
      refine ops_end ?_
      refine then_n ?_
      refine sy_ret ?_
      refine ret_r hf rfl rfl ?_
      refine ⟨congrArg Value.bool ?_, hh.ext⟩
      first | (simp [okScn, *]; done) | (simp [okScn]; omega)
theorem c78 (l : List Scn) (sa : Option Addr) (sc : Nat) (w : World) (hS : ScAt w sa l) (hn : l.length ≤ 10) : Calls Tryz.prog 112 #[.slice sa l.length sc, .func (.func 94) #[] #[]] w (Ret fun v w' => v = .int .i64 (firstBad l) ∧ Ext [] w w') := by
  refine calls_of Tryz.func112 rfl rfl (fun a hf => ?_)
  have hh := Hp.init w []
  refine sy_seq ?_
  refine sy_ops ?_
  refine ops_v hf hh (yv_assign rfl) (.inl rfl) rfl rfl rfl ?_; clear hf; clear a; intro a hf
  refine ops_end ?_
  refine then_n ?_
  refine sy_seq ?_
  refine sy_seq ?_
  refine sy_ops ?_
  refine ops_v hf hh (yv_move rfl) (.inl rfl) rfl rfl rfl ?_; clear hf; clear a; intro a hf
  refine ops_v hf hh (yv_len Tryz.se_22 rfl) (.inl rfl) rfl rfl rfl ?_; clear hf; clear a; intro a hf
  refine ops_v hf hh (yv_move rfl) (.inl rfl) rfl rfl rfl ?_; clear hf; clear a; intro a hf
  refine ops_end ?_
  refine then_n ?_
  refine sy_block ?_
  refine sy_loopF (σ := Nat) [4, 5, 8, 9, 10, 11, 12, 13, 14, 15, 16, 17, 18] (fun k => [(8, .int .i64 k)]) (fun k => k ≤ l.length ∧ ∀ j s, j < k → l[j]? = some s → okScn s = true) (fun k => l.length - k) (0) hf hh ?_ ?_ ?_
  · repeat' (first | exact True.intro | refine And.intro rfl ?_)
  · exact ⟨by omega, fun j s hj => by omega⟩
  · rintro k a w ⟨hq1, hq2⟩ hf hh
    refine sy_seq ?_
    refine sy_ops ?_
    refine ops_v hf hh (yv_bin rfl rfl rfl) (.inl rfl) rfl rfl rfl ?_; clear hf; clear a; intro a hf
    refine ops_end ?_
    refine then_n ?_
    refine sy_seq ?_
    refine sy_cond hf rfl (fun hg2 => ?_) (fun hg2 => ?_)
    · have hG2 := hg2; try simp only [gS] at hG2
      refine sy_skip ?_
      refine then_n ?_
      refine sy_seq ?_
      refine sy_block ?_
      refine sy_seq ?_
      refine sy_ops ?_
      refine ops_v hf hh (yv_move rfl) (.inl rfl) rfl rfl rfl ?_; clear hf; clear a; intro a hf
      refine ops_v hf hh (yv_assign rfl) (.inl rfl) rfl rfl rfl ?_; clear hf; clear a; intro a hf
      refine ops_end ?_
      refine then_n ?_
      refine sy_seq ?_
      obtain ⟨s, hs⟩ := scn_of (l := l) (i := k) (by omega)
      obtain ⟨blk, off, c, T, fr, e, hb, hc⟩ := hS k s hs; cases e
      refine sy_ops ?_
      refine ops_v hf hh (yv_move rfl) (.inl rfl) rfl rfl rfl ?_; clear hf; clear a; intro a hf
      refine ops_v hf hh (yv_move rfl) (.inl rfl) rfl rfl rfl ?_; clear hf; clear a; intro a hf
      refine ops_v hf hh (yv_move rfl) (.inl rfl) rfl rfl rfl ?_; clear hf; clear a; intro a hf
      refine ops_v hf hh (yv_indexAddr Tryz.se_22 rfl rfl (by omega) (by omega)) (.inl rfl) rfl rfl rfl ?_; clear hf; clear a; intro a hf
      refine ops_v hf hh (yv_loads Tryz.ag_33 rfl (fun _ h => by first | exact h.at (i := 0) rfl | exact h.at (i := 1) rfl | exact h.at (i := 2) rfl | exact h.at (i := 3) rfl | exact h.old hb) (by first | assumption | rfl)) (.inl rfl) rfl rfl rfl ?_; clear hf; clear a; intro a hf
      refine ops_call hf Tryz.en_94 rfl rfl rfl (.inl rfl) rfl (c73 s _) ?_; clear hf; clear a; intro v a w hR hf
      obtain ⟨rfl, hx⟩ := hR; replace hh := hh.more hx; clear hx
      refine ops_end ?_
      refine then_n ?_
      refine sy_cond hf rfl (fun hg4 => ?_) (fun hg4 => ?_)
      · have hG4 := hg4; try simp only [gS] at hG4
        refine sy_seq ?_
        refine sy_ops ?_
        refine ops_v hf hh (yv_move rfl) (.inl rfl) rfl rfl rfl ?_; clear hf; clear a; intro a hf
        refine ops_v hf hh (yv_assign rfl) (.inl rfl) rfl rfl rfl ?_; clear hf; clear a; intro a hf
        refine ops_end ?_
        refine then_n ?_
        refine sy_ret ?_
        refine blk_r ?_
        refine then_r ?_
        refine then_r ?_
        refine blk_r ?_
        refine then_r ?_
        refine ret_r hf rfl rfl ?_
        refine ⟨intv ?_, hh.ext⟩
        first
          | (exact (firstBad_at hq2 hs (by simp_all)).symm)
          | (exact (firstBad_none (fun j t hj ht => hq2 j t (by omega) ht)).symm)
      · have hG4 := hg4; try simp only [gS] at hG4
        refine sy_skip ?_
        refine blk_n ?_
        refine then_n ?_
        refine sy_ops ?_
        first | refine ops_v hf hh (yv_add rfl rfl (by omega) (by omega)) (.inl rfl) rfl rfl rfl ?_; clear hf; clear a; intro a hf | refine ops_v hf hh (yv_bin rfl rfl rfl) (.inl rfl) rfl rfl rfl ?_; clear hf; clear a; intro a hf
        refine ops_v hf hh (yv_move rfl) (.inl rfl) rfl rfl rfl ?_; clear hf; clear a; intro a hf
        refine ops_end ?_
        refine then_n ?_
        refine ⟨k + 1, ⟨⟨by omega, fun j t hj ht => ?_⟩, hf.head ⟨rfl, True.intro⟩ (Keep.cons rfl (Keep.cons rfl (Keep.cons rfl (Keep.cons rfl (Keep.cons rfl (Keep.cons rfl (Keep.cons rfl (Keep.cons rfl (Keep.cons rfl (Keep.cons rfl (Keep.cons rfl (Keep.app rfl (Keep.rm rfl Keep.base))))))))))))), hh⟩, by omega⟩
        by_cases hjk : j = k
        · subst hjk; rw [hs] at ht; cases ht; simp_all
        · exact hq2 j t (by omega) ht
    · have hG2 := hg2; try simp only [gS] at hG2
      refine sy_exit ?_
      refine then_e ?_
      refine then_e ?_
      refine blk_e ?_
      refine then_n ?_
      refine sy_seq ?_
      refine sy_ops ?_
      refine ops_v hf hh (yv_assign rfl) (.inl rfl) rfl rfl rfl ?_; clear hf; clear a; intro a hf
      refine ops_end ?_
      refine then_n ?_
      refine sy_ret ?_
      refine ret_r hf rfl rfl ?_
      refine ⟨intv ?_, hh.ext⟩
      first
        | (exact (firstBad_at hq2 hs (by simp_all)).symm)
        | (exact (firstBad_none (fun j t hj ht => hq2 j t (by omega) ht)).symm)
theorem c74 (l : List Scn) (sa : Option Addr) (sc : Nat) (w : World) (hS : ScAt w sa l) (hn : l.length ≤ 10) : Calls Tryz.prog 95 #[.slice sa l.length sc, .func (.func 94) #[] #[]] w (Ret fun v w' => v = .bool (!(l.all okScn)) ∧ Ext [] w w') := by
  refine calls_of Tryz.func95 rfl rfl (fun a hf => ?_)
  have hh := Hp.init w []
  refine sy_seq ?_
  refine sy_ops ?_
  refine ops_v hf hh (yv_assign rfl) (.inl rfl) rfl rfl rfl ?_; clear hf; clear a; intro a hf
  refine ops_end ?_
  refine then_n ?_
  refine sy_seq ?_
  refine sy_ops ?_
  refine ops_v hf hh (yv_move rfl) (.inl rfl) rfl rfl rfl ?_; clear hf; clear a; intro a hf
  refine ops_v hf hh (yv_move rfl) (.inl rfl) rfl rfl rfl ?_; clear hf; clear a; intro a hf
  refine ops_call hf Tryz.en_112 rfl rfl rfl (.inl rfl) rfl (c78 l sa sc _ hS hn) ?_; clear hf; clear a; intro v a w hR hf
  obtain ⟨rfl, hx⟩ := hR; replace hh := hh.more hx; clear hx
  refine ops_v hf hh (yv_bin rfl rfl rfl) (.inl rfl) rfl rfl rfl ?_; clear hf; clear a; intro a hf
  refine ops_v hf hh (yv_assign rfl) (.inl rfl) rfl rfl rfl ?_; clear hf; clear a; intro a hf
  refine ops_end ?_
  refine then_n ?_
  refine sy_ret ?_
  refine ret_r hf rfl rfl ?_
  exact ⟨congrArg Value.bool (firstBad_all l), hh.ext⟩
theorem c59 (b : BarD) (sa : Option Addr) (sc : Nat) (w : World) (hS : ScAt w sa b.scenes) : Calls Tryz.prog 56 #[barV b sa sc] w (Ret fun v w' => v = .bool (okBar b) ∧ Ext [] w w') := by
  refine calls_of Tryz.func56 rfl rfl (fun a hf => ?_)
  have hh := Hp.init w []
  have hpw := @shl_bd b.slots
  have hpw2 := cast_pow b.slots.toNat
  refine sy_seq ?_
  refine sy_ops ?_
  refine ops_box hf hh rfl (.inl rfl) rfl ?_; clear hf hh; clear a; intro B1 a w hf hh
  refine ops_v hf hh (yv_assign rfl) (.inl rfl) rfl rfl rfl ?_; clear hf; clear a; intro a hf
  refine ops_end ?_
  refine then_n ?_
  refine sy_seq ?_
  refine sy_ops ?_
  refine ops_v hf hh (yv_assign rfl) (.inl rfl) rfl rfl rfl ?_; clear hf; clear a; intro a hf
  refine ops_end ?_
  refine then_n ?_
  refine sy_seq ?_
  refine sy_ops ?_
  refine ops_v hf hh (yv_fieldAddr Tryz.fo_24_0 rfl) (.inl rfl) rfl rfl rfl ?_; clear hf; clear a; intro a hf
  refine ops_v hf hh (yv_load Tryz.sc_3 rfl (fun _ h => by first | exact h.at (i := 0) rfl | exact h.at (i := 1) rfl) (by first | rfl | assumption)) (.inl rfl) rfl rfl rfl ?_; clear hf; clear a; intro a hf
  refine ops_call hf Tryz.en_22 rfl rfl rfl (.inl rfl) rfl (c40 _ _ _ _) ?_; clear hf; clear a; intro v a w hR hf
  obtain ⟨rfl, hx⟩ := hR; replace hh := hh.more hx; clear hx
  refine ops_v hf hh (yv_move rfl) (.inl rfl) rfl rfl rfl ?_; clear hf; clear a; intro a hf
  refine guard_split hf (t := 8) rfl (fun hg2 => ?_) (fun hg2 => ?_)
  · have hG2 := hg2; try simp only [gS] at hG2
    refine ops_v hf hh (yv_fieldAddr Tryz.fo_24_1 rfl) (gon rfl rfl rfl (by first | assumption | rfl | (simp; done))) rfl rfl rfl ?_; clear hf; clear a; intro a hf
    refine ops_v hf hh (yv_load Tryz.sc_3 rfl (fun _ h => by first | exact h.at (i := 0) rfl | exact h.at (i := 1) rfl) (by first | rfl | assumption)) (gon rfl rfl rfl (by first | assumption | rfl | (simp; done))) rfl rfl rfl ?_; clear hf; clear a; intro a hf
    refine ops_call hf Tryz.en_22 rfl rfl rfl (gon rfl rfl rfl (by first | assumption | rfl | (simp; done))) rfl (c40 _ _ _ _) ?_; clear hf; clear a; intro v a w hR hf
    obtain ⟨rfl, hx⟩ := hR; replace hh := hh.more hx; clear hx
    refine ops_v hf hh (yv_pick_t rfl (by first | assumption | rfl | (simp; done)) rfl) (.inl rfl) rfl rfl rfl ?_; clear hf; clear a; intro a hf
    refine ops_v hf hh (yv_move rfl) (.inl rfl) rfl rfl rfl ?_; clear hf; clear a; intro a hf
    refine guard_split hf (t := 13) rfl (fun hg4 => ?_) (fun hg4 => ?_)
    · have hG4 := hg4; try simp only [gS] at hG4
      refine ops_v hf hh (yv_fieldAddr Tryz.fo_24_3 rfl) (gon rfl rfl rfl (by first | assumption | rfl | (simp; done))) rfl rfl rfl ?_; clear hf; clear a; intro a hf
      refine ops_v hf hh (yv_load Tryz.sc_3 rfl (fun _ h => by first | exact h.at (i := 0) rfl | exact h.at (i := 1) rfl) (by first | rfl | assumption)) (gon rfl rfl rfl (by first | assumption | rfl | (simp; done))) rfl rfl rfl ?_; clear hf; clear a; intro a hf
      refine ops_call hf Tryz.en_22 rfl rfl rfl (gon rfl rfl rfl (by first | assumption | rfl | (simp; done))) rfl (c40 _ _ _ _) ?_; clear hf; clear a; intro v a w hR hf
      obtain ⟨rfl, hx⟩ := hR; replace hh := hh.more hx; clear hx
      refine ops_v hf hh (yv_pick_t rfl (by first | assumption | rfl | (simp; done)) rfl) (.inl rfl) rfl rfl rfl ?_; clear hf; clear a; intro a hf
      refine ops_v hf hh (yv_assign rfl) (.inl rfl) rfl rfl rfl ?_; clear hf; clear a; intro a hf
      refine ops_end ?_
      refine then_n ?_
      refine sy_seq ?_
      refine sy_quiet (C := Hp _ _ _) Tryz.follows (by kernel_rfl) (hh.drawn _) ?_
      refine q_v hf (yv_move rfl) (.inl rfl) rfl rfl ?_; clear hf; clear a; intro a hf
      refine q_v hf (yv_move rfl) (.inl rfl) rfl rfl ?_; clear hf; clear a; intro a hf
      refine guard_splitq hf (t := 19) rfl (fun hg6 => ?_) (fun hg6 => ?_)
      · have hG6 := hg6; try simp only [gS] at hG6
        refine q_v hf (yv_fieldAddr Tryz.fo_24_2 rfl) (gon rfl rfl rfl (by first | assumption | rfl | (simp; done))) rfl rfl ?_; clear hf; clear a; intro a hf
        refine q_v hf (yv_load Tryz.sc_3 rfl (fun _ h => by first | exact h.at (i := 0) rfl | exact h.at (i := 1) rfl) (by first | rfl | assumption)) (gon rfl rfl rfl (by first | assumption | rfl | (simp; done))) rfl rfl ?_; clear hf; clear a; intro a hf
        refine q_v hf (yv_fieldAddr Tryz.fo_24_0 rfl) (gon rfl rfl rfl (by first | assumption | rfl | (simp; done))) rfl rfl ?_; clear hf; clear a; intro a hf
        refine q_v hf (yv_load Tryz.sc_3 rfl (fun _ h => by first | exact h.at (i := 0) rfl | exact h.at (i := 1) rfl) (by first | rfl | assumption)) (gon rfl rfl rfl (by first | assumption | rfl | (simp; done))) rfl rfl ?_; clear hf; clear a; intro a hf
        refine q_v hf (yv_shl1 (.inl rfl) rfl rfl (by omega) (by omega)) (gon rfl rfl rfl (by first | assumption | rfl | (simp; done))) rfl rfl ?_; clear hf; clear a; intro a hf
        first | refine q_v hf (yv_sub rfl rfl (by omega) (by omega)) (gon rfl rfl rfl (by first | assumption | rfl | (simp; done))) rfl rfl ?_; clear hf; clear a; intro a hf | refine q_v hf (yv_bin rfl rfl rfl) (gon rfl rfl rfl (by first | assumption | rfl | (simp; done))) rfl rfl ?_; clear hf; clear a; intro a hf
        refine q_callE hf Tryz.en_22 rfl rfl rfl (gon rfl rfl rfl (by first | assumption | rfl | (simp; done))) rfl (fun w hh => c40 _ _ _ _) ?_; clear hf; clear a; intro a hf
        refine q_v hf (yv_pick_t rfl (by first | assumption | rfl | (simp; done)) rfl) (.inl rfl) rfl rfl ?_; clear hf; clear a; intro a hf
        refine q_v hf (yv_move rfl) (.inl rfl) rfl rfl ?_; clear hf; clear a; intro a hf
        refine guard_splitq hf (t := 28) rfl (fun hg8 => ?_) (fun hg8 => ?_)
        · have hG8 := hg8; try simp only [gS] at hG8
          refine q_v hf (yv_fieldAddr Tryz.fo_24_4 rfl) (gon rfl rfl rfl (by first | assumption | rfl | (simp; done))) rfl rfl ?_; clear hf; clear a; intro a hf
          refine q_v hf (yv_load Tryz.sc_22 rfl (fun _ h => by first | exact h.at (i := 0) rfl | exact h.at (i := 1) rfl) (by first | rfl | assumption)) (gon rfl rfl rfl (by first | assumption | rfl | (simp; done))) rfl rfl ?_; clear hf; clear a; intro a hf
          refine q_v hf (yv_len Tryz.se_22 rfl) (gon rfl rfl rfl (by first | assumption | rfl | (simp; done))) rfl rfl ?_; clear hf; clear a; intro a hf
          refine q_v hf (yv_bin rfl rfl rfl) (gon rfl rfl rfl (by first | assumption | rfl | (simp; done))) rfl rfl ?_; clear hf; clear a; intro a hf
          refine q_v hf (yv_pick_t rfl (by first | assumption | rfl | (simp; done)) rfl) (.inl rfl) rfl rfl ?_; clear hf; clear a; intro a hf
          refine q_v hf (yv_move rfl) (.inl rfl) rfl rfl ?_; clear hf; clear a; intro a hf
          refine guard_splitq hf (t := 34) rfl (fun hg10 => ?_) (fun hg10 => ?_)
          · have hG10 := hg10; try simp only [gS] at hG10
            refine q_v hf (yv_fieldAddr Tryz.fo_24_4 rfl) (gon rfl rfl rfl (by first | assumption | rfl | (simp; done))) rfl rfl ?_; clear hf; clear a; intro a hf
            refine q_v hf (yv_load Tryz.sc_22 rfl (fun _ h => by first | exact h.at (i := 0) rfl | exact h.at (i := 1) rfl) (by first | rfl | assumption)) (gon rfl rfl rfl (by first | assumption | rfl | (simp; done))) rfl rfl ?_; clear hf; clear a; intro a hf
            refine q_v hf (yv_move rfl) (gon rfl rfl rfl (by first | assumption | rfl | (simp; done))) rfl rfl ?_; clear hf; clear a; intro a hf
            refine q_callE hf Tryz.en_95 rfl rfl rfl (gon rfl rfl rfl (by first | assumption | rfl | (simp; done))) rfl (fun w hh => c74 b.scenes sa sc _ (hS.ext hh.ext) (by omega)) ?_; clear hf; clear a; intro a hf
            refine q_v hf (yv_not rfl) (gon rfl rfl rfl (by first | assumption | rfl | (simp; done))) rfl rfl ?_; clear hf; clear a; intro a hf
            refine q_v hf (yv_pick_t rfl (by first | assumption | rfl | (simp; done)) rfl) (.inl rfl) rfl rfl ?_; clear hf; clear a; intro a hf
            refine q_v hf (yv_assign rfl) (.inl rfl) rfl rfl ?_; clear hf; clear a; intro a hf
            refine q_end fun w hh => ?_
            refine then_n ?_
            refine sy_ret ?_
            refine ret_r hf rfl rfl ?_
            refine ⟨congrArg Value.bool ?_, hh.ext⟩
            first
              | (rw [Bool.not_not]; refine okBar_last ?_ ?_ ?_ ?_ ?_ ?_ ?_ ?_ ?_ <;> omega)
              | (refine okBar_no fun hV => ?_
                 have h1 := hV.s1; have h2 := hV.s2; have h3 := hV.p1; have h4 := hV.p2; have h5 := hV.k1; have h6 := hV.k2; have h7 := hV.m1; have h8 := hV.m2; have h9 := hV.n
                 have h10 := hpw h1 h2
                 omega)
          · have hG10 := hg10; try simp only [gS] at hG10
            refine q_off hf (goff rfl rfl rfl (by first | assumption | rfl | (simp; done))) rfl rfl ?_; clear hf; clear a; intro a hf
            refine q_off hf (goff rfl rfl rfl (by first | assumption | rfl | (simp; done))) rfl rfl ?_; clear hf; clear a; intro a hf
            refine q_off hf (goff rfl rfl rfl (by first | assumption | rfl | (simp; done))) rfl rfl ?_; clear hf; clear a; intro a hf
            refine q_off hf (goff rfl rfl rfl (by first | assumption | rfl | (simp; done))) rfl rfl ?_; clear hf; clear a; intro a hf
            refine q_off hf (goff rfl rfl rfl (by first | assumption | rfl | (simp; done))) rfl rfl ?_; clear hf; clear a; intro a hf
            refine q_v hf (yv_pick_f rfl (by first | assumption | rfl | (simp; done)) rfl) (.inl rfl) rfl rfl ?_; clear hf; clear a; intro a hf
            refine q_v hf (yv_assign rfl) (.inl rfl) rfl rfl ?_; clear hf; clear a; intro a hf
            refine q_end fun w hh => ?_
            refine then_n ?_
            refine sy_ret ?_
            refine ret_r hf rfl rfl ?_
            refine ⟨congrArg Value.bool ?_, hh.ext⟩
            first
              | (rw [Bool.not_not]; refine okBar_last ?_ ?_ ?_ ?_ ?_ ?_ ?_ ?_ ?_ <;> omega)
              | (refine okBar_no fun hV => ?_
                 have h1 := hV.s1; have h2 := hV.s2; have h3 := hV.p1; have h4 := hV.p2; have h5 := hV.k1; have h6 := hV.k2; have h7 := hV.m1; have h8 := hV.m2; have h9 := hV.n
                 have h10 := hpw h1 h2
                 omega)
        · have hG8 := hg8; try simp only [gS] at hG8
          refine q_off hf (goff rfl rfl rfl (by first | assumption | rfl | (simp; done))) rfl rfl ?_; clear hf; clear a; intro a hf
          refine q_off hf (goff rfl rfl rfl (by first | assumption | rfl | (simp; done))) rfl rfl ?_; clear hf; clear a; intro a hf
          refine q_off hf (goff rfl rfl rfl (by first | assumption | rfl | (simp; done))) rfl rfl ?_; clear hf; clear a; intro a hf
          refine q_off hf (goff rfl rfl rfl (by first | assumption | rfl | (simp; done))) rfl rfl ?_; clear hf; clear a; intro a hf
          refine q_v hf (yv_pick_f rfl (by first | assumption | rfl | (simp; done)) rfl) (.inl rfl) rfl rfl ?_; clear hf; clear a; intro a hf
          refine q_v hf (yv_move rfl) (.inl rfl) rfl rfl ?_; clear hf; clear a; intro a hf
          refine q_off hf (goff rfl rfl rfl (by first | assumption | rfl | (simp; done))) rfl rfl ?_; clear hf; clear a; intro a hf
          refine q_off hf (goff rfl rfl rfl (by first | assumption | rfl | (simp; done))) rfl rfl ?_; clear hf; clear a; intro a hf
          refine q_off hf (goff rfl rfl rfl (by first | assumption | rfl | (simp; done))) rfl rfl ?_; clear hf; clear a; intro a hf
          refine q_off hf (goff rfl rfl rfl (by first | assumption | rfl | (simp; done))) rfl rfl ?_; clear hf; clear a; intro a hf
          refine q_off hf (goff rfl rfl rfl (by first | assumption | rfl | (simp; done))) rfl rfl ?_; clear hf; clear a; intro a hf
          refine q_v hf (yv_pick_f rfl (by first | assumption | rfl | (simp; done)) rfl) (.inl rfl) rfl rfl ?_; clear hf; clear a; intro a hf
          refine q_v hf (yv_assign rfl) (.inl rfl) rfl rfl ?_; clear hf; clear a; intro a hf
          refine q_end fun w hh => ?_
          refine then_n ?_
          refine sy_ret ?_
          refine ret_r hf rfl rfl ?_
          refine ⟨congrArg Value.bool ?_, hh.ext⟩
          first
            | (rw [Bool.not_not]; refine okBar_last ?_ ?_ ?_ ?_ ?_ ?_ ?_ ?_ ?_ <;> omega)
            | (refine okBar_no fun hV => ?_
               have h1 := hV.s1; have h2 := hV.s2; have h3 := hV.p1; have h4 := hV.p2; have h5 := hV.k1; have h6 := hV.k2; have h7 := hV.m1; have h8 := hV.m2; have h9 := hV.n
               have h10 := hpw h1 h2
               omega)
      · have hG6 := hg6; try simp only [gS] at hG6
        refine q_off hf (goff rfl rfl rfl (by first | assumption | rfl | (simp; done))) rfl rfl ?_; clear hf; clear a; intro a hf
        refine q_off hf (goff rfl rfl rfl (by first | assumption | rfl | (simp; done))) rfl rfl ?_; clear hf; clear a; intro a hf
        refine q_off hf (goff rfl rfl rfl (by first | assumption | rfl | (simp; done))) rfl rfl ?_; clear hf; clear a; intro a hf
        refine q_off hf (goff rfl rfl rfl (by first | assumption | rfl | (simp; done))) rfl rfl ?_; clear hf; clear a; intro a hf
        refine q_off hf (goff rfl rfl rfl (by first | assumption | rfl | (simp; done))) rfl rfl ?_; clear hf; clear a; intro a hf
        refine q_off hf (goff rfl rfl rfl (by first | assumption | rfl | (simp; done))) rfl rfl ?_; clear hf; clear a; intro a hf
        refine q_off hf (goff rfl rfl rfl (by first | assumption | rfl | (simp; done))) rfl rfl ?_; clear hf; clear a; intro a hf
        refine q_v hf (yv_pick_f rfl (by first | assumption | rfl | (simp; done)) rfl) (.inl rfl) rfl rfl ?_; clear hf; clear a; intro a hf
        refine q_v hf (yv_move rfl) (.inl rfl) rfl rfl ?_; clear hf; clear a; intro a hf
        refine q_off hf (goff rfl rfl rfl (by first | assumption | rfl | (simp; done))) rfl rfl ?_; clear hf; clear a; intro a hf
        refine q_off hf (goff rfl rfl rfl (by first | assumption | rfl | (simp; done))) rfl rfl ?_; clear hf; clear a; intro a hf
        refine q_off hf (goff rfl rfl rfl (by first | assumption | rfl | (simp; done))) rfl rfl ?_; clear hf; clear a; intro a hf
        refine q_off hf (goff rfl rfl rfl (by first | assumption | rfl | (simp; done))) rfl rfl ?_; clear hf; clear a; intro a hf
        refine q_v hf (yv_pick_f rfl (by first | assumption | rfl | (simp; done)) rfl) (.inl rfl) rfl rfl ?_; clear hf; clear a; intro a hf
        refine q_v hf (yv_move rfl) (.inl rfl) rfl rfl ?_; clear hf; clear a; intro a hf
        refine q_off hf (goff rfl rfl rfl (by first | assumption | rfl | (simp; done))) rfl rfl ?_; clear hf; clear a; intro a hf
        refine q_off hf (goff rfl rfl rfl (by first | assumption | rfl | (simp; done))) rfl rfl ?_; clear hf; clear a; intro a hf
        refine q_off hf (goff rfl rfl rfl (by first | assumption | rfl | (simp; done))) rfl rfl ?_; clear hf; clear a; intro a hf
        refine q_off hf (goff rfl rfl rfl (by first | assumption | rfl | (simp; done))) rfl rfl ?_; clear hf; clear a; intro a hf
        refine q_off hf (goff rfl rfl rfl (by first | assumption | rfl | (simp; done))) rfl rfl ?_; clear hf; clear a; intro a hf
        refine q_v hf (yv_pick_f rfl (by first | assumption | rfl | (simp; done)) rfl) (.inl rfl) rfl rfl ?_; clear hf; clear a; intro a hf
        refine q_v hf (yv_assign rfl) (.inl rfl) rfl rfl ?_; clear hf; clear a; intro a hf
        refine q_end fun w hh => ?_
        refine then_n ?_
        refine sy_ret ?_
        refine ret_r hf rfl rfl ?_
        refine ⟨congrArg Value.bool ?_, hh.ext⟩
        first
          | (rw [Bool.not_not]; refine okBar_last ?_ ?_ ?_ ?_ ?_ ?_ ?_ ?_ ?_ <;> omega)
          | (refine okBar_no fun hV => ?_
             have h1 := hV.s1; have h2 := hV.s2; have h3 := hV.p1; have h4 := hV.p2; have h5 := hV.k1; have h6 := hV.k2; have h7 := hV.m1; have h8 := hV.m2; have h9 := hV.n
             have h10 := hpw h1 h2
             omega)
    · have hG4 := hg4; try simp only [gS] at hG4
      refine ops_off hf (goff rfl rfl rfl (by first | assumption | rfl | (simp; done))) rfl rfl ?_; clear hf; clear a; intro a hf
      refine ops_off hf (goff rfl rfl rfl (by first | assumption | rfl | (simp; done))) rfl rfl ?_; clear hf; clear a; intro a hf
      refine ops_off hf (goff rfl rfl rfl (by first | assumption | rfl | (simp; done))) rfl rfl ?_; clear hf; clear a; intro a hf
      refine ops_v hf hh (yv_pick_f rfl (by first | assumption | rfl | (simp; done)) rfl) (.inl rfl) rfl rfl rfl ?_; clear hf; clear a; intro a hf
      refine ops_v hf hh (yv_assign rfl) (.inl rfl) rfl rfl rfl ?_; clear hf; clear a; intro a hf
      refine ops_end ?_
      refine then_n ?_
      refine sy_seq ?_
      refine sy_quiet (C := Hp _ _ _) Tryz.follows (by kernel_rfl) (hh.drawn _) ?_
      refine q_v hf (yv_move rfl) (.inl rfl) rfl rfl ?_; clear hf; clear a; intro a hf
      refine q_v hf (yv_move rfl) (.inl rfl) rfl rfl ?_; clear hf; clear a; intro a hf
      refine q_off hf (goff rfl rfl rfl (by first | assumption | rfl | (simp; done))) rfl rfl ?_; clear hf; clear a; intro a hf
      refine q_off hf (goff rfl rfl rfl (by first | assumption | rfl | (simp; done))) rfl rfl ?_; clear hf; clear a; intro a hf
      refine q_off hf (goff rfl rfl rfl (by first | assumption | rfl | (simp; done))) rfl rfl ?_; clear hf; clear a; intro a hf
      refine q_off hf (goff rfl rfl rfl (by first | assumption | rfl | (simp; done))) rfl rfl ?_; clear hf; clear a; intro a hf
      refine q_off hf (goff rfl rfl rfl (by first | assumption | rfl | (simp; done))) rfl rfl ?_; clear hf; clear a; intro a hf
      refine q_off hf (goff rfl rfl rfl (by first | assumption | rfl | (simp; done))) rfl rfl ?_; clear hf; clear a; intro a hf
      refine q_off hf (goff rfl rfl rfl (by first | assumption | rfl | (simp; done))) rfl rfl ?_; clear hf; clear a; intro a hf
      refine q_v hf (yv_pick_f rfl (by first | assumption | rfl | (simp; done)) rfl) (.inl rfl) rfl rfl ?_; clear hf; clear a; intro a hf
      refine q_v hf (yv_move rfl) (.inl rfl) rfl rfl ?_; clear hf; clear a; intro a hf
      refine q_off hf (goff rfl rfl rfl (by first | assumption | rfl | (simp; done))) rfl rfl ?_; clear hf; clear a; intro a hf
      refine q_off hf (goff rfl rfl rfl (by first | assumption | rfl | (simp; done))) rfl rfl ?_; clear hf; clear a; intro a hf
      refine q_off hf (goff rfl rfl rfl (by first | assumption | rfl | (simp; done))) rfl rfl ?_; clear hf; clear a; intro a hf
      refine q_off hf (goff rfl rfl rfl (by first | assumption | rfl | (simp; done))) rfl rfl ?_; clear hf; clear a; intro a hf
      refine q_v hf (yv_pick_f rfl (by first | assumption | rfl | (simp; done)) rfl) (.inl rfl) rfl rfl ?_; clear hf; clear a; intro a hf
      refine q_v hf (yv_move rfl) (.inl rfl) rfl rfl ?_; clear hf; clear a; intro a hf
      refine q_off hf (goff rfl rfl rfl (by first | assumption | rfl | (simp; done))) rfl rfl ?_; clear hf; clear a; intro a hf
      refine q_off hf (goff rfl rfl rfl (by first | assumption | rfl | (simp; done))) rfl rfl ?_; clear hf; clear a; intro a hf
      refine q_off hf (goff rfl rfl rfl (by first | assumption | rfl | (simp; done))) rfl rfl ?_; clear hf; clear a; intro a hf
      refine q_off hf (goff rfl rfl rfl (by first | assumption | rfl | (simp; done))) rfl rfl ?_; clear hf; clear a; intro a hf
      refine q_off hf (goff rfl rfl rfl (by first | assumption | rfl | (simp; done))) rfl rfl ?_; clear hf; clear a; intro a hf
      refine q_v hf (yv_pick_f rfl (by first | assumption | rfl | (simp; done)) rfl) (.inl rfl) rfl rfl ?_; clear hf; clear a; intro a hf
      refine q_v hf (yv_assign rfl) (.inl rfl) rfl rfl ?_; clear hf; clear a; intro a hf
      refine q_end fun w hh => ?_
      refine then_n ?_
      refine sy_ret ?_
      refine ret_r hf rfl rfl ?_
      refine ⟨congrArg Value.bool ?_, hh.ext⟩
      first
        | (rw [Bool.not_not]; refine okBar_last ?_ ?_ ?_ ?_ ?_ ?_ ?_ ?_ ?_ <;> omega)
        | (refine okBar_no fun hV => ?_
           have h1 := hV.s1; have h2 := hV.s2; have h3 := hV.p1; have h4 := hV.p2; have h5 := hV.k1; have h6 := hV.k2; have h7 := hV.m1; have h8 := hV.m2; have h9 := hV.n
           have h10 := hpw h1 h2
           omega)
  · have hG2 := hg2; try simp only [gS] at hG2
    refine ops_off hf (goff rfl rfl rfl (by first | assumption | rfl | (simp; done))) rfl rfl ?_; clear hf; clear a; intro a hf
    refine ops_off hf (goff rfl rfl rfl (by first | assumption | rfl | (simp; done))) rfl rfl ?_; clear hf; clear a; intro a hf
    refine ops_off hf (goff rfl rfl rfl (by first | assumption | rfl | (simp; done))) rfl rfl ?_; clear hf; clear a; intro a hf
    refine ops_v hf hh (yv_pick_f rfl (by first | assumption | rfl | (simp; done)) rfl) (.inl rfl) rfl rfl rfl ?_; clear hf; clear a; intro a hf
    refine ops_v hf hh (yv_move rfl) (.inl rfl) rfl rfl rfl ?_; clear hf; clear a; intro a hf
    refine ops_off hf (goff rfl rfl rfl (by first | assumption | rfl | (simp; done))) rfl rfl ?_; clear hf; clear a; intro a hf
    refine ops_off hf (goff rfl rfl rfl (by first | assumption | rfl | (simp; done))) rfl rfl ?_; clear hf; clear a; intro a hf
    refine ops_off hf (goff rfl rfl rfl (by first | assumption | rfl | (simp; done))) rfl rfl ?_; clear hf; clear a; intro a hf
    refine ops_v hf hh (yv_pick_f rfl (by first | assumption | rfl | (simp; done)) rfl) (.inl rfl) rfl rfl rfl ?_; clear hf; clear a; intro a hf
    refine ops_v hf hh (yv_assign rfl) (.inl rfl) rfl rfl rfl ?_; clear hf; clear a; intro a hf
    refine ops_end ?_
    refine then_n ?_
    refine sy_seq ?_
    refine sy_quiet (C := Hp _ _ _) Tryz.follows (by kernel_rfl) (hh.drawn _) ?_
    refine q_v hf (yv_move rfl) (.inl rfl) rfl rfl ?_; clear hf; clear a; intro a hf
    refine q_v hf (yv_move rfl) (.inl rfl) rfl rfl ?_; clear hf; clear a; intro a hf
    refine q_off hf (goff rfl rfl rfl (by first | assumption | rfl | (simp; done))) rfl rfl ?_; clear hf; clear a; intro a hf
    refine q_off hf (goff rfl rfl rfl (by first | assumption | rfl | (simp; done))) rfl rfl ?_; clear hf; clear a; intro a hf
    refine q_off hf (goff rfl rfl rfl (by first | assumption | rfl | (simp; done))) rfl rfl ?_; clear hf; clear a; intro a hf
    refine q_off hf (goff rfl rfl rfl (by first | assumption | rfl | (simp; done))) rfl rfl ?_; clear hf; clear a; intro a hf
    refine q_off hf (goff rfl rfl rfl (by first | assumption | rfl | (simp; done))) rfl rfl ?_; clear hf; clear a; intro a hf
    refine q_off hf (goff rfl rfl rfl (by first | assumption | rfl | (simp; done))) rfl rfl ?_; clear hf; clear a; intro a hf
    refine q_off hf (goff rfl rfl rfl (by first | assumption | rfl | (simp; done))) rfl rfl ?_; clear hf; clear a; intro a hf
    refine q_v hf (yv_pick_f rfl (by first | assumption | rfl | (simp; done)) rfl) (.inl rfl) rfl rfl ?_; clear hf; clear a; intro a hf
    refine q_v hf (yv_move rfl) (.inl rfl) rfl rfl ?_; clear hf; clear a; intro a hf
    refine q_off hf (goff rfl rfl rfl (by first | assumption | rfl | (simp; done))) rfl rfl ?_; clear hf; clear a; intro a hf
    refine q_off hf (goff rfl rfl rfl (by first | assumption | rfl | (simp; done))) rfl rfl ?_; clear hf; clear a; intro a hf
    refine q_off hf (goff rfl rfl rfl (by first | assumption | rfl | (simp; done))) rfl rfl ?_; clear hf; clear a; intro a hf
    refine q_off hf (goff rfl rfl rfl (by first | assumption | rfl | (simp; done))) rfl rfl ?_; clear hf; clear a; intro a hf
    refine q_v hf (yv_pick_f rfl (by first | assumption | rfl | (simp; done)) rfl) (.inl rfl) rfl rfl ?_; clear hf; clear a; intro a hf
    refine q_v hf (yv_move rfl) (.inl rfl) rfl rfl ?_; clear hf; clear a; intro a hf
    refine q_off hf (goff rfl rfl rfl (by first | assumption | rfl | (simp; done))) rfl rfl ?_; clear hf; clear a; intro a hf
    refine q_off hf (goff rfl rfl rfl (by first | assumption | rfl | (simp; done))) rfl rfl ?_; clear hf; clear a; intro a hf
    refine q_off hf (goff rfl rfl rfl (by first | assumption | rfl | (simp; done))) rfl rfl ?_; clear hf; clear a; intro a hf
    refine q_off hf (goff rfl rfl rfl (by first | assumption | rfl | (simp; done))) rfl rfl ?_; clear hf; clear a; intro a hf
    refine q_off hf (goff rfl rfl rfl (by first | assumption | rfl | (simp; done))) rfl rfl ?_; clear hf; clear a; intro a hf
    refine q_v hf (yv_pick_f rfl (by first | assumption | rfl | (simp; done)) rfl) (.inl rfl) rfl rfl ?_; clear hf; clear a; intro a hf
    refine q_v hf (yv_assign rfl) (.inl rfl) rfl rfl ?_; clear hf; clear a; intro a hf
    refine q_end fun w hh => ?_
    refine then_n ?_
    refine sy_ret ?_
    refine ret_r hf rfl rfl ?_
    refine ⟨congrArg Value.bool ?_, hh.ext⟩
    first
      | (rw [Bool.not_not]; refine okBar_last ?_ ?_ ?_ ?_ ?_ ?_ ?_ ?_ ?_ <;> omega)
      | (refine okBar_no fun hV => ?_
         have h1 := hV.s1; have h2 := hV.s2; have h3 := hV.p1; have h4 := hV.p2; have h5 := hV.k1; have h6 := hV.k2; have h7 := hV.m1; have h8 := hV.m2; have h9 := hV.n
         have h10 := hpw h1 h2
         omega)
end Go.Proofs.YtccpgpnekoncoaaGreatDoor

namespace Go.Proofs.YtccpgpnekoncoaaGreatDoor
open Go Go.Sy Go.BarM
theorem spl_get (c : Array Value) (off : Nat) (vs : List Value) (j : Nat) (h : off + vs.length ≤ c.size) : (spl c off vs)[j]? = if j < off then c[j]? else if j < off + vs.length then vs[j - off]? else c[j]? := by
  unfold spl
  rw [List.getElem?_toArray]
  by_cases h1 : j < off
  · rw [if_pos h1, List.append_assoc, List.getElem?_append_left (by simp; omega), List.getElem?_take_of_lt h1, Array.getElem?_toList]
  · rw [if_neg h1]
    by_cases h2 : j < off + vs.length
    · rw [if_pos h2, List.getElem?_append_left (by simp; omega), List.getElem?_append_right (by simp; omega)]
      congr 1; simp; omega
    · rw [if_neg h2, List.getElem?_append_right (by simp; omega), List.getElem?_drop, Array.getElem?_toList]
      congr 1; simp; omega
theorem spl_size (c : Array Value) (off : Nat) (vs : List Value) (h : off + vs.length ≤ c.size) : (spl c off vs).size = c.size := by
  unfold spl; simp; omega
/-- The fewest, and the most, slots by which two pictures of a scene can be apart. -/
def loS (b : BarD) (s : Scn) : Int := max 1 ((s.least + b.pitch - 1) / b.pitch)
def hiS (b : BarD) (s : Scn) : Int := min (b.slots - 1) (s.most / b.pitch)
theorem loS_bd {b : BarD} {s : Scn} (hV : Valid b) (hO : OkS s) : 1 ≤ loS b s ∧ loS b s ≤ 20000 := by
  have h1 := hV.p1; have h2 := hV.p2; have h3 := hO.l1; have h4 := hO.l2
  have h5 := Int.ediv_le_self b.pitch (show 0 ≤ s.least + b.pitch - 1 by omega)
  unfold loS; omega
theorem hiS_bd {b : BarD} {s : Scn} (hV : Valid b) (hO : OkS s) : 0 ≤ hiS b s ∧ hiS b s ≤ b.slots - 1 := by
  have h1 := hV.p1; have h2 := hV.s1; have h3 := hO.m1; have h4 := hO.l1
  have h5 := Int.ediv_nonneg (show 0 ≤ s.most by omega) (show 0 ≤ b.pitch by omega)
  unfold hiS; omega
/-- What an opened bar holds, the first k scenes looked at. -/
structure BarC (b : BarD) (sa : Option Addr) (sc bm k : Nat) (cs : Array Value) : Prop where
  size : cs.size = 26
  c0 : cs[0]? = some (.int .i64 b.slots)
  c1 : cs[1]? = some (.int .i64 b.pitch)
  c2 : cs[2]? = some (.int .i64 b.broken)
  c3 : cs[3]? = some (.int .i64 b.most)
  c4 : cs[4]? = some (.slice sa b.scenes.length sc)
  c25 : cs[25]? = some (.map (some bm))
  lo : ∀ i s, i < k → b.scenes[i]? = some s → cs[5 + i * 2]? = some (.int .i64 (loS b s))
  hi : ∀ i s, i < k → b.scenes[i]? = some s → cs[5 + i * 2 + 1]? = some (.int .i64 (hiS b s))
theorem BarC.step {b : BarD} {sa : Option Addr} {sc bm k : Nat} {cs : Array Value} (h : BarC b sa sc bm k cs) {s : Scn} (hs : b.scenes[k]? = some s) (hk : k < 10) :
    BarC b sa sc bm (k + 1) (spl cs (5 + k * 2) [.int .i64 (loS b s), .int .i64 (hiS b s)]) := by
  have hz := h.size
  have g := fun j => spl_get cs (5 + k * 2) [.int .i64 (loS b s), .int .i64 (hiS b s)] j (by simp; omega)
  refine ⟨by rw [spl_size _ _ _ (by simp; omega)]; exact hz, ?_, ?_, ?_, ?_, ?_, ?_, ?_, ?_⟩
  · rw [g, if_pos (by omega)]; exact h.c0
  · rw [g, if_pos (by omega)]; exact h.c1
  · rw [g, if_pos (by omega)]; exact h.c2
  · rw [g, if_pos (by omega)]; exact h.c3
  · rw [g, if_pos (by omega)]; exact h.c4
  · rw [g, if_neg (by omega), if_neg (by simp; omega)]; exact h.c25
  · intro i t hi ht
    by_cases hik : i = k
    · subst hik; rw [hs] at ht; cases ht
      rw [g, if_neg (by omega), if_pos (by simp)]; simp
    · rw [g, if_pos (by omega)]; exact h.lo i t (by omega) ht
  · intro i t hi ht
    by_cases hik : i = k
    · subst hik; rw [hs] at ht; cases ht
      rw [g, if_neg (by omega), if_pos (by simp)]; simp [show 5 + i * 2 + 1 - (5 + i * 2) = 1 by omega]
    · rw [g, if_pos (by omega)]; exact h.hi i t (by omega) ht
theorem c59v (b : BarD) (sa : Option Addr) (sc : Nat) (o : Bool) (ho : okBar b = o) (w : World) (hS : ScAt w sa b.scenes) : Calls Tryz.prog 56 #[barV b sa sc] w (Ret fun v w' => v = .bool o ∧ Ext [] w w') := by
  subst ho; exact c59 b sa sc w hS
theorem c35n (b : BarD) (sa : Option Addr) (sc : Nat) (w : World) (hS : ScAt w sa b.scenes) (hb : okBar b = false) : Calls Tryz.prog 20 #[barV b sa sc] w (Ret fun v w' => v = .tuple #[.pointer none, .int .i64 1] ∧ Ext [] w w') := by
  refine calls_of Tryz.func20 rfl rfl (fun a hf => ?_)
  have hh := Hp.init w []
  refine sy_seq ?_
  refine sy_ops ?_
  refine ops_box hf hh rfl (.inl rfl) rfl ?_; clear hf hh; clear a; intro B1 a w hf hh
  refine ops_v hf hh (yv_assign rfl) (.inl rfl) rfl rfl rfl ?_; clear hf; clear a; intro a hf
  refine ops_v hf hh (yv_assign rfl) (.inl rfl) rfl rfl rfl ?_; clear hf; clear a; intro a hf
  refine ops_end ?_
  refine then_n ?_
  refine sy_seq ?_
  refine sy_seq ?_
  refine sy_ops ?_
  refine ops_v hf hh (yv_loads Tryz.ag_24 rfl (fun _ h => by first | exact h.at (i := 0) rfl | exact h.at (i := 1) rfl | exact h.at (i := 2) rfl | exact h.at (i := 3) rfl) (by first | assumption | rfl)) (.inl rfl) rfl rfl rfl ?_; clear hf; clear a; intro a hf
  refine ops_call hf Tryz.en_56 rfl rfl rfl (.inl rfl) rfl (c59v b sa sc false hb _ (hS.ext hh.ext)) ?_; clear hf; clear a; intro v a w hR hf
  obtain ⟨rfl, hx⟩ := hR; replace hh := hh.more hx; clear hx
  refine ops_v hf hh (yv_not rfl) (.inl rfl) rfl rfl rfl ?_; clear hf; clear a; intro a hf
  refine ops_end ?_
  refine then_n ?_
  refine sy_ct hf rfl (by first | assumption | rfl | (simp; done)) ?_
  refine sy_seq ?_
  refine sy_ops ?_
  refine ops_v hf hh (yv_assign rfl) (.inl rfl) rfl rfl rfl ?_; clear hf; clear a; intro a hf
  refine ops_v hf hh (yv_assign rfl) (.inl rfl) rfl rfl rfl ?_; clear hf; clear a; intro a hf
  refine ops_end ?_
  refine then_n ?_
  refine sy_ret ?_
  refine then_r ?_
  refine ret_r hf rfl rfl ?_
  exact ⟨rfl, hh.ext⟩
theorem c35 (b : BarD) (sa : Option Addr) (sc : Nat) (u : World) (hS : ScAt u sa b.scenes) (hV : Valid b) : Calls Tryz.prog 20 #[barV b sa sc] u
    (Ret fun v w' => ∃ bp bm cs, v = .tuple #[ptr bp 0, .int .i64 0] ∧ BarC b sa sc bm b.scenes.length cs ∧ Hp u [] [(bp, .cells cs 128), (bm, .map #[] 0)] w') := by
  refine calls_of Tryz.func20 rfl rfl (fun a hf => ?_)
  have hh := Hp.init u []
  have hn := hV.n; have h1 := hV.p1; have h2 := hV.p2; have h3 := hV.s1; have h4 := hV.s2
  refine sy_seq ?_
  refine sy_ops ?_
  refine ops_box hf hh rfl (.inl rfl) rfl ?_; clear hf hh; clear a; intro B1 a w hf hh
  refine ops_v hf hh (yv_assign rfl) (.inl rfl) rfl rfl rfl ?_; clear hf; clear a; intro a hf
  refine ops_v hf hh (yv_assign rfl) (.inl rfl) rfl rfl rfl ?_; clear hf; clear a; intro a hf
  refine ops_end ?_
  refine then_n ?_
  refine sy_seq ?_
  refine sy_seq ?_
  refine sy_ops ?_
  refine ops_v hf hh (yv_loads Tryz.ag_24 rfl (fun _ h => by first | exact h.at (i := 0) rfl | exact h.at (i := 1) rfl | exact h.at (i := 2) rfl | exact h.at (i := 3) rfl | exact h.at (i := 4) rfl | exact h.old hb) (by first | assumption | rfl)) (.inl rfl) rfl rfl rfl ?_; clear hf; clear a; intro a hf
  refine ops_call hf Tryz.en_56 rfl rfl rfl (.inl rfl) rfl (c59v b sa sc true ((okBar_iff b).2 hV) _ (hS.ext hh.ext)) ?_; clear hf; clear a; intro v a w hR hf
  obtain ⟨rfl, hx⟩ := hR; replace hh := hh.more hx; clear hx
  refine ops_v hf hh (yv_not rfl) (.inl rfl) rfl rfl rfl ?_; clear hf; clear a; intro a hf
  refine ops_end ?_
  refine then_n ?_
  refine sy_cf hf rfl (by first | assumption | rfl | (simp; done)) ?_
  refine sy_skip ?_
  refine then_n ?_
  refine sy_seq ?_
  refine sy_ops ?_
  refine ops_v hf hh (yv_loads Tryz.ag_24 rfl (fun _ h => by first | exact h.at (i := 0) rfl | exact h.at (i := 1) rfl | exact h.at (i := 2) rfl | exact h.at (i := 3) rfl | exact h.at (i := 4) rfl | exact h.old hb) (by first | assumption | rfl)) (.inl rfl) rfl rfl rfl ?_; clear hf; clear a; intro a hf
  refine ops_makeMap hf hh (.inl rfl) rfl ?_; clear hf hh; clear a; intro B11 a w hf hh
  refine ops_v hf hh (yv_buildS Tryz.bs_128 rfl rfl) (.inl rfl) rfl rfl rfl ?_; clear hf; clear a; intro a hf
  refine ops_box hf hh rfl (.inl rfl) rfl ?_; clear hf hh; clear a; intro B13 a w hf hh
  refine ops_v hf hh (yv_assign rfl) (.inl rfl) rfl rfl rfl ?_; clear hf; clear a; intro a hf
  refine ops_end ?_
  refine then_n ?_
  refine sy_seq ?_
  refine sy_seq ?_
  refine sy_ops ?_
  refine ops_v hf hh (yv_fieldAddr Tryz.fo_24_4 rfl) (.inl rfl) rfl rfl rfl ?_; clear hf; clear a; intro a hf
  refine ops_v hf hh (yv_load Tryz.sc_22 rfl (fun _ h => by first | exact h.at (i := 0) rfl | exact h.at (i := 1) rfl | exact h.at (i := 2) rfl | exact h.at (i := 3) rfl | exact h.at (i := 4) rfl | exact h.old hb) (by first | rfl | assumption)) (.inl rfl) rfl rfl rfl ?_; clear hf; clear a; intro a hf
  refine ops_v hf hh (yv_len Tryz.se_22 rfl) (.inl rfl) rfl rfl rfl ?_; clear hf; clear a; intro a hf
  refine ops_v hf hh (yv_move rfl) (.inl rfl) rfl rfl rfl ?_; clear hf; clear a; intro a hf
  refine ops_end ?_
  refine then_n ?_
  refine sy_block ?_
  refine sy_loopH (σ := Nat) [5, 6, 17, 18, 19, 20, 21, 22, 23, 24, 25, 26, 27, 28, 29, 30, 31, 32, 33, 34, 35, 36, 37, 38, 39, 40, 41, 42, 43, 44, 45, 46, 47] (fun k => [(17, .int .i64 k)]) (fun k => fun w' => k ≤ b.scenes.length ∧ ∃ cs, BarC b sa sc B11 k cs ∧ Hp u [] [(B13, .cells cs 128), (B11, .map #[] 0), (B1, .cells #[.int .i64 b.slots, .int .i64 b.pitch, .int .i64 b.broken, .int .i64 b.most, .slice sa b.scenes.length sc] 24)] w') (fun k => b.scenes.length - k) (0) hf ?_ ?_ ?_
  · repeat' (first | exact True.intro | refine And.intro rfl ?_)
  · refine ⟨by omega, _, ?_, by exact hh⟩
    exact ⟨rfl, rfl, rfl, rfl, rfl, rfl, rfl, fun i s hi => by omega, fun i s hi => by omega⟩
  · rintro k a w ⟨hq1, cs, hcs, hh⟩ hf
    refine sy_seq ?_
    refine sy_ops ?_
    refine ops_v hf hh (yv_bin rfl rfl rfl) (.inl rfl) rfl rfl rfl ?_; clear hf; clear a; intro a hf
    refine ops_end ?_
    refine then_n ?_
    refine sy_seq ?_
    refine sy_cond hf rfl (fun hg3 => ?_) (fun hg3 => ?_)
    · have hG3 := hg3; try simp only [gS] at hG3
      refine sy_skip ?_
      refine then_n ?_
      refine sy_seq ?_
      refine sy_block ?_
      refine sy_seq ?_
      obtain ⟨s, hs⟩ := scn_of (l := b.scenes) (i := k) (by omega)
      have hO := hV.sc s (List.mem_of_getElem? hs)
      have g1 := hO.l1; have g2 := hO.l2; have g3 := hO.m1; have g4 := hO.m2
      obtain ⟨blk, off, c, T, fr, e, hb, hc⟩ := hS k s hs; cases e
      refine sy_ops ?_
      refine ops_v hf hh (yv_move rfl) (.inl rfl) rfl rfl rfl ?_; clear hf; clear a; intro a hf
      refine ops_v hf hh (yv_indexAddr Tryz.se_22 rfl rfl (by omega) (by omega)) (.inl rfl) rfl rfl rfl ?_; clear hf; clear a; intro a hf
      refine ops_v hf hh (yv_loads Tryz.ag_33 rfl (fun _ h => by first | exact h.at (i := 0) rfl | exact h.at (i := 1) rfl | exact h.at (i := 2) rfl | exact h.at (i := 3) rfl | exact h.at (i := 4) rfl | exact h.old hb) (by first | assumption | rfl)) (.inl rfl) rfl rfl rfl ?_; clear hf; clear a; intro a hf
      refine ops_alloc hf hh Tryz.ze_33 (.inl rfl) rfl ?_; clear hf hh; clear a; intro B6 a w hf hh
      refine ops_v hf hh (yv_assign rfl) (.inl rfl) rfl rfl rfl ?_; clear hf; clear a; intro a hf
      first | refine ops_store (i := 0) hf hh rfl rfl rfl Tryz.sz_33 rfl rfl rfl (.inl rfl) fun w hh => ?_ | refine ops_store (i := 1) hf hh rfl rfl rfl Tryz.sz_33 rfl rfl rfl (.inl rfl) fun w hh => ?_ | refine ops_store (i := 2) hf hh rfl rfl rfl Tryz.sz_33 rfl rfl rfl (.inl rfl) fun w hh => ?_ | refine ops_store (i := 3) hf hh rfl rfl rfl Tryz.sz_33 rfl rfl rfl (.inl rfl) fun w hh => ?_ | refine ops_store (i := 4) hf hh rfl rfl rfl Tryz.sz_33 rfl rfl rfl (.inl rfl) fun w hh => ?_
      refine ops_end ?_
      refine then_n ?_
      refine sy_tail (C := Hp _ _ _) 25 Tryz.follows (by kernel_rfl) rfl rfl (hh.drawn _) ?_
      refine q_v hf (yv_move rfl) (.inl rfl) rfl rfl ?_; clear hf; clear a; intro a hf
      refine q_v hf (yv_move rfl) (.inl rfl) rfl rfl ?_; clear hf; clear a; intro a hf
      refine q_v hf (yv_fieldAddr Tryz.fo_33_0 rfl) (.inl rfl) rfl rfl ?_; clear hf; clear a; intro a hf
      refine q_v hf (yv_load Tryz.sc_3 rfl (fun _ h => by first | exact h.at (i := 0) rfl | exact h.at (i := 1) rfl | exact h.at (i := 2) rfl | exact h.at (i := 3) rfl | exact h.at (i := 4) rfl | exact h.old hb) (by first | rfl | assumption)) (.inl rfl) rfl rfl ?_; clear hf; clear a; intro a hf
      refine q_v hf (yv_fieldAddr Tryz.fo_24_1 rfl) (.inl rfl) rfl rfl ?_; clear hf; clear a; intro a hf
      refine q_v hf (yv_load Tryz.sc_3 rfl (fun _ h => by first | exact h.at (i := 0) rfl | exact h.at (i := 1) rfl | exact h.at (i := 2) rfl | exact h.at (i := 3) rfl | exact h.at (i := 4) rfl | exact h.old hb) (by first | rfl | assumption)) (.inl rfl) rfl rfl ?_; clear hf; clear a; intro a hf
      first | refine q_v hf (yv_add rfl rfl (by omega) (by omega)) (.inl rfl) rfl rfl ?_; clear hf; clear a; intro a hf | refine q_v hf (yv_bin rfl rfl rfl) (.inl rfl) rfl rfl ?_; clear hf; clear a; intro a hf
      first | refine q_v hf (yv_sub rfl rfl (by omega) (by omega)) (.inl rfl) rfl rfl ?_; clear hf; clear a; intro a hf | refine q_v hf (yv_bin rfl rfl rfl) (.inl rfl) rfl rfl ?_; clear hf; clear a; intro a hf
      refine q_v hf (yv_fieldAddr Tryz.fo_24_1 rfl) (.inl rfl) rfl rfl ?_; clear hf; clear a; intro a hf
      refine q_v hf (yv_load Tryz.sc_3 rfl (fun _ h => by first | exact h.at (i := 0) rfl | exact h.at (i := 1) rfl | exact h.at (i := 2) rfl | exact h.at (i := 3) rfl | exact h.at (i := 4) rfl | exact h.old hb) (by first | rfl | assumption)) (.inl rfl) rfl rfl ?_; clear hf; clear a; intro a hf
      refine q_v hf (yv_quo rfl rfl (by omega) (by omega) (by omega)) (.inl rfl) rfl rfl ?_; clear hf; clear a; intro a hf
      refine q_v hf (yv_max rfl rfl) (.inl rfl) rfl rfl ?_; clear hf; clear a; intro a hf
      refine q_v hf (yv_fieldAddr Tryz.fo_24_0 rfl) (.inl rfl) rfl rfl ?_; clear hf; clear a; intro a hf
      refine q_v hf (yv_load Tryz.sc_3 rfl (fun _ h => by first | exact h.at (i := 0) rfl | exact h.at (i := 1) rfl | exact h.at (i := 2) rfl | exact h.at (i := 3) rfl | exact h.at (i := 4) rfl | exact h.old hb) (by first | rfl | assumption)) (.inl rfl) rfl rfl ?_; clear hf; clear a; intro a hf
      first | refine q_v hf (yv_sub rfl rfl (by omega) (by omega)) (.inl rfl) rfl rfl ?_; clear hf; clear a; intro a hf | refine q_v hf (yv_bin rfl rfl rfl) (.inl rfl) rfl rfl ?_; clear hf; clear a; intro a hf
      refine q_v hf (yv_fieldAddr Tryz.fo_33_1 rfl) (.inl rfl) rfl rfl ?_; clear hf; clear a; intro a hf
      refine q_v hf (yv_load Tryz.sc_3 rfl (fun _ h => by first | exact h.at (i := 0) rfl | exact h.at (i := 1) rfl | exact h.at (i := 2) rfl | exact h.at (i := 3) rfl | exact h.at (i := 4) rfl | exact h.old hb) (by first | rfl | assumption)) (.inl rfl) rfl rfl ?_; clear hf; clear a; intro a hf
      refine q_v hf (yv_fieldAddr Tryz.fo_24_1 rfl) (.inl rfl) rfl rfl ?_; clear hf; clear a; intro a hf
      refine q_v hf (yv_load Tryz.sc_3 rfl (fun _ h => by first | exact h.at (i := 0) rfl | exact h.at (i := 1) rfl | exact h.at (i := 2) rfl | exact h.at (i := 3) rfl | exact h.at (i := 4) rfl | exact h.old hb) (by first | rfl | assumption)) (.inl rfl) rfl rfl ?_; clear hf; clear a; intro a hf
      refine q_v hf (yv_quo rfl rfl (by omega) (by omega) (by omega)) (.inl rfl) rfl rfl ?_; clear hf; clear a; intro a hf
      refine q_v hf (yv_min rfl rfl) (.inl rfl) rfl rfl ?_; clear hf; clear a; intro a hf
      refine q_v hf (yv_buildA Tryz.ba_83 rfl rfl) (.inl rfl) rfl rfl ?_; clear hf; clear a; intro a hf
      refine q_v hf (yv_nilCheck rfl) (.inl rfl) rfl rfl ?_; clear hf; clear a; intro a hf
      refine q_v hf (yv_fieldAddr Tryz.fo_128_1 rfl) (.inl rfl) rfl rfl ?_; clear hf; clear a; intro a hf
      refine q_v hf (yv_indexArr Tryz.ae_126 rfl rfl (by omega) (by omega)) (.inl rfl) rfl rfl ?_; clear hf; clear a; intro a hf
      refine q_end fun w hh => ?_
      refine ops_store (i := 1) hf hh rfl rfl rfl Tryz.sz_83 rfl rfl (by have hz := hcs.size; exact Nat.ble_eq_true_of_le (by rw [hz]; show 0 + 5 + ((k : Nat) : Int).toNat * 2 + 2 ≤ 26; simp; omega)) (.inl rfl) fun w hh => ?_
      refine ops_end ?_
      refine blk_n ?_
      refine then_n ?_
      refine sy_ops ?_
      first | refine ops_v hf hh (yv_add rfl rfl (by omega) (by omega)) (.inl rfl) rfl rfl rfl ?_; clear hf; clear a; intro a hf | refine ops_v hf hh (yv_bin rfl rfl rfl) (.inl rfl) rfl rfl rfl ?_; clear hf; clear a; intro a hf
      refine ops_v hf hh (yv_move rfl) (.inl rfl) rfl rfl rfl ?_; clear hf; clear a; intro a hf
      refine ops_end ?_
      refine then_n ?_
      have hst := hcs.step hs (by omega)
      refine ⟨k + 1, ⟨⟨by omega, _, hst, ?_⟩, hf.head ⟨rfl, True.intro⟩ (Keep.cons rfl (Keep.cons rfl (Keep.cons rfl (Keep.cons rfl (Keep.cons rfl (Keep.cons rfl (Keep.cons rfl (Keep.cons rfl (Keep.cons rfl (Keep.cons rfl (Keep.cons rfl (Keep.cons rfl (Keep.cons rfl (Keep.cons rfl (Keep.cons rfl (Keep.cons rfl (Keep.cons rfl (Keep.cons rfl (Keep.cons rfl (Keep.cons rfl (Keep.cons rfl (Keep.cons rfl (Keep.cons rfl (Keep.cons rfl (Keep.cons rfl (Keep.cons rfl (Keep.cons rfl (Keep.cons rfl (Keep.cons rfl (Keep.cons rfl (Keep.cons rfl (Keep.cons rfl (Keep.cons rfl (Keep.app rfl (Keep.rm rfl Keep.base)))))))))))))))))))))))))))))))))))⟩, by omega⟩
      simp only [Int.toNat_natCast, Nat.zero_add] at hh
      exact hh.less (.cons _ (List.Sublist.refl _))
    · have hG3 := hg3; try simp only [gS] at hG3
      refine sy_exit ?_
      refine then_e ?_
      refine then_e ?_
      refine blk_e ?_
      refine then_n ?_
      refine sy_seq ?_
      refine sy_ops ?_
      refine ops_v hf hh (yv_move rfl) (.inl rfl) rfl rfl rfl ?_; clear hf; clear a; intro a hf
      refine ops_v hf hh (yv_assign rfl) (.inl rfl) rfl rfl rfl ?_; clear hf; clear a; intro a hf
      refine ops_v hf hh (yv_assign rfl) (.inl rfl) rfl rfl rfl ?_; clear hf; clear a; intro a hf
      refine ops_end ?_
      refine then_n ?_
      refine sy_ret ?_
      refine ret_r hf rfl rfl ?_
      have : k = b.scenes.length := by omega
      subst this
      exact ⟨B13, B11, cs, rfl, hcs, hh.less (.cons_cons _ (.cons_cons _ (.cons _ .slnil)))⟩
/-- An opened bar lies in memory. -/
def BarO (w : World) (b : BarD) (sa : Option Addr) (sc bp bm : Nat) : Prop := ∃ cs, w.heap[bp]? = some (.cells cs 128 (0, 0)) ∧ BarC b sa sc bm b.scenes.length cs
theorem BarO.ext {w w' : World} {b : BarD} {sa : Option Addr} {sc bp bm : Nat} {M : List Nat} (h : BarO w b sa sc bp bm) (e : Ext M w w') (hm : bp ∉ M) : BarO w' b sa sc bp bm :=
  let ⟨cs, h1, h2⟩ := h
  ⟨cs, e.getM h1 hm, h2⟩
theorem land_zero {p k n : Nat} (hp : p < 2 ^ n) : p &&& k = 0 ↔ ∀ j, j < n → ¬ (p.testBit j = true ∧ k.testBit j = true) := by
  constructor
  · intro h j _ ⟨h1, h2⟩
    have : (p &&& k).testBit j = true := by rw [Nat.testBit_and, h1, h2]; rfl
    rw [h] at this; simp at this
  · intro h
    apply Nat.eq_of_testBit_eq
    intro j
    rw [Nat.testBit_and, Nat.zero_testBit]
    by_cases hj : j < n
    · have := h j hj
      cases h1 : p.testBit j <;> cases h2 : k.testBit j <;> simp_all
    · rw [testBit_lt hp (by omega)]; rfl
theorem isPlan_land (b : BarD) (p : Nat) : isPlan b p = true ↔ p < 2 ^ b.slots.toNat ∧ p &&& b.broken.toNat = 0 ∧ (pc p : Int) ≤ b.most := by
  rw [isPlan_iff]
  constructor
  · rintro ⟨h1, h2, h3⟩; exact ⟨h1, (land_zero h1).2 h3, h2⟩
  · rintro ⟨h1, h2, h3⟩; exact ⟨h1, h3, (land_zero h1).1 h2⟩
theorem c36 (b : BarD) (sa : Option Addr) (sc bp bm : Nat) (p : Int) (w : World) (hV : Valid b) (hB : BarO w b sa sc bp bm) : Calls Tryz.prog 21 #[ptr bp 0, .int .i64 p] w (Ret fun v w' => v = .bool (isPlanI b p) ∧ Ext [] w w') := by
  refine calls_of Tryz.func21 rfl rfl (fun a hf => ?_)
  have hh := Hp.init w []
  obtain ⟨cs, hb, hcs⟩ := hB
  have c0 := hcs.c0; have c1 := hcs.c1; have c2 := hcs.c2; have c3 := hcs.c3; have c4 := hcs.c4
  have hs1 := hV.s1; have hs2 := hV.s2; have hk1 := hV.k1; have hk2 := hV.k2; have hn := hV.n
  have hpw := shl_bd hs1 hs2
  have hpw2 := cast_pow b.slots.toNat
  refine sy_seq ?_
  refine sy_ops ?_
  refine ops_v hf hh (yv_assign rfl) (.inl rfl) rfl rfl rfl ?_; clear hf; clear a; intro a hf
  refine ops_end ?_
  refine then_n ?_
  refine sy_seq ?_
  refine sy_quiet (C := Hp _ _ _) Tryz.follows (by kernel_rfl) (hh.drawn _) ?_
  refine q_v hf (yv_move rfl) (.inl rfl) rfl rfl ?_; clear hf; clear a; intro a hf
  refine q_v hf (yv_move rfl) (.inl rfl) rfl rfl ?_; clear hf; clear a; intro a hf
  refine q_v hf (yv_nilCheck rfl) (.inl rfl) rfl rfl ?_; clear hf; clear a; intro a hf
  refine q_v hf (yv_fieldAddr Tryz.fo_128_0 rfl) (.inl rfl) rfl rfl ?_; clear hf; clear a; intro a hf
  refine q_v hf (yv_fieldAddr Tryz.fo_24_0 rfl) (.inl rfl) rfl rfl ?_; clear hf; clear a; intro a hf
  refine q_v hf (yv_load Tryz.sc_3 rfl (fun _ h => by first | exact h.at (i := 0) rfl | exact h.old hb) (by first | rfl | assumption)) (.inl rfl) rfl rfl ?_; clear hf; clear a; intro a hf
  refine q_v hf (yv_shl1 (.inl rfl) rfl rfl (by omega) (by omega)) (.inl rfl) rfl rfl ?_; clear hf; clear a; intro a hf
  first | refine q_v hf (yv_sub rfl rfl (by omega) (by omega)) (.inl rfl) rfl rfl ?_; clear hf; clear a; intro a hf | refine q_v hf (yv_bin rfl rfl rfl) (.inl rfl) rfl rfl ?_; clear hf; clear a; intro a hf
  refine q_callE hf Tryz.en_22 rfl rfl rfl (.inl rfl) rfl (fun w hh => c40 _ _ _ _) ?_; clear hf; clear a; intro a hf
  refine q_v hf (yv_move rfl) (.inl rfl) rfl rfl ?_; clear hf; clear a; intro a hf
  refine guard_splitq hf (t := 14) rfl (fun hg2 => ?_) (fun hg2 => ?_)
  · have hG2 := hg2; try simp only [gS] at hG2
    refine q_v hf (yv_move rfl) (gon rfl rfl rfl (by first | assumption | rfl | (simp; done))) rfl rfl ?_; clear hf; clear a; intro a hf
    refine q_v hf (yv_move rfl) (gon rfl rfl rfl (by first | assumption | rfl | (simp; done))) rfl rfl ?_; clear hf; clear a; intro a hf
    refine q_v hf (yv_nilCheck rfl) (gon rfl rfl rfl (by first | assumption | rfl | (simp; done))) rfl rfl ?_; clear hf; clear a; intro a hf
    refine q_v hf (yv_fieldAddr Tryz.fo_128_0 rfl) (gon rfl rfl rfl (by first | assumption | rfl | (simp; done))) rfl rfl ?_; clear hf; clear a; intro a hf
    refine q_v hf (yv_fieldAddr Tryz.fo_24_2 rfl) (gon rfl rfl rfl (by first | assumption | rfl | (simp; done))) rfl rfl ?_; clear hf; clear a; intro a hf
    refine q_v hf (yv_load Tryz.sc_3 rfl (fun _ h => by first | exact h.at (i := 0) rfl | exact h.old hb) (by first | rfl | assumption)) (gon rfl rfl rfl (by first | assumption | rfl | (simp; done))) rfl rfl ?_; clear hf; clear a; intro a hf
    first | refine q_v hf (yv_and (.inl rfl) rfl rfl (by omega) (by simp only [IntKind.top]; omega) (by omega) (by simp only [IntKind.top]; omega)) (gon rfl rfl rfl (by first | assumption | rfl | (simp; done))) rfl rfl ?_; clear hf; clear a; intro a hf | refine q_v hf (yv_bin rfl rfl rfl) (gon rfl rfl rfl (by first | assumption | rfl | (simp; done))) rfl rfl ?_; clear hf; clear a; intro a hf
    refine q_v hf (yv_bin rfl rfl rfl) (gon rfl rfl rfl (by first | assumption | rfl | (simp; done))) rfl rfl ?_; clear hf; clear a; intro a hf
    refine q_v hf (yv_pick_t rfl (by first | assumption | rfl | (simp; done)) rfl) (.inl rfl) rfl rfl ?_; clear hf; clear a; intro a hf
    refine q_v hf (yv_move rfl) (.inl rfl) rfl rfl ?_; clear hf; clear a; intro a hf
    refine guard_splitq hf (t := 24) rfl (fun hg4 => ?_) (fun hg4 => ?_)
    · have hG4 := hg4; try simp only [gS] at hG4
      refine q_v hf (yv_move rfl) (gon rfl rfl rfl (by first | assumption | rfl | (simp; done))) rfl rfl ?_; clear hf; clear a; intro a hf
      first | refine q_v hf (yv_convx (.inr rfl) (by kernel_rfl) Tryz.un_75 rfl (by omega) (by simp only [IntKind.top]; omega)) (gon rfl rfl rfl (by first | assumption | rfl | (simp; done))) rfl rfl ?_; clear hf; clear a; intro a hf | refine q_v hf (yv_conv (by kernel_rfl) Tryz.un_75 rfl) (gon rfl rfl rfl (by first | assumption | rfl | (simp; done))) rfl rfl ?_; clear hf; clear a; intro a hf
      refine q_callE hf Tryz.en_57 rfl rfl rfl (gon rfl rfl rfl (by first | assumption | rfl | (simp; done))) rfl (fun w hh => c53i _ (by omega) (by omega) _) ?_; clear hf; clear a; intro a hf
      refine q_v hf (yv_move rfl) (gon rfl rfl rfl (by first | assumption | rfl | (simp; done))) rfl rfl ?_; clear hf; clear a; intro a hf
      refine q_v hf (yv_nilCheck rfl) (gon rfl rfl rfl (by first | assumption | rfl | (simp; done))) rfl rfl ?_; clear hf; clear a; intro a hf
      refine q_v hf (yv_fieldAddr Tryz.fo_128_0 rfl) (gon rfl rfl rfl (by first | assumption | rfl | (simp; done))) rfl rfl ?_; clear hf; clear a; intro a hf
      refine q_v hf (yv_fieldAddr Tryz.fo_24_3 rfl) (gon rfl rfl rfl (by first | assumption | rfl | (simp; done))) rfl rfl ?_; clear hf; clear a; intro a hf
      refine q_v hf (yv_load Tryz.sc_3 rfl (fun _ h => by first | exact h.at (i := 0) rfl | exact h.old hb) (by first | rfl | assumption)) (gon rfl rfl rfl (by first | assumption | rfl | (simp; done))) rfl rfl ?_; clear hf; clear a; intro a hf
      refine q_v hf (yv_bin rfl rfl rfl) (gon rfl rfl rfl (by first | assumption | rfl | (simp; done))) rfl rfl ?_; clear hf; clear a; intro a hf
      refine q_v hf (yv_pick_t rfl (by first | assumption | rfl | (simp; done)) rfl) (.inl rfl) rfl rfl ?_; clear hf; clear a; intro a hf
      refine q_v hf (yv_assign rfl) (.inl rfl) rfl rfl ?_; clear hf; clear a; intro a hf
      refine q_end fun w hh => ?_
      refine then_n ?_
      refine sy_ret ?_
      refine ret_r hf rfl rfl ?_
      refine ⟨congrArg Value.bool ?_, hh.ext⟩
      first
        | (refine isPlanI_no fun h0 hip => ?_
           have hi := (isPlan_land b p.toNat).1 hip
           have hi1 := hi.1; have hi2 := hi.2.1
           omega)
        | (have h0 : 0 ≤ p := by omega
           have hlt : p.toNat < 2 ^ b.slots.toNat := by omega
           have hla : p.toNat &&& b.broken.toNat = 0 := by omega
           have hl := isPlan_land b p.toNat
           have hpi : isPlanI b p = isPlan b p.toNat := by unfold isPlanI; simp [h0]
           rw [hpi, Bool.eq_iff_iff, hl, decide_eq_true_eq]
           exact ⟨fun h => ⟨hlt, hla, h⟩, fun h => h.2.2⟩)
    · have hG4 := hg4; try simp only [gS] at hG4
      refine q_off hf (goff rfl rfl rfl (by first | assumption | rfl | (simp; done))) rfl rfl ?_; clear hf; clear a; intro a hf
      refine q_off hf (goff rfl rfl rfl (by first | assumption | rfl | (simp; done))) rfl rfl ?_; clear hf; clear a; intro a hf
      refine q_off hf (goff rfl rfl rfl (by first | assumption | rfl | (simp; done))) rfl rfl ?_; clear hf; clear a; intro a hf
      refine q_off hf (goff rfl rfl rfl (by first | assumption | rfl | (simp; done))) rfl rfl ?_; clear hf; clear a; intro a hf
      refine q_off hf (goff rfl rfl rfl (by first | assumption | rfl | (simp; done))) rfl rfl ?_; clear hf; clear a; intro a hf
      refine q_off hf (goff rfl rfl rfl (by first | assumption | rfl | (simp; done))) rfl rfl ?_; clear hf; clear a; intro a hf
      refine q_off hf (goff rfl rfl rfl (by first | assumption | rfl | (simp; done))) rfl rfl ?_; clear hf; clear a; intro a hf
      refine q_off hf (goff rfl rfl rfl (by first | assumption | rfl | (simp; done))) rfl rfl ?_; clear hf; clear a; intro a hf
      refine q_off hf (goff rfl rfl rfl (by first | assumption | rfl | (simp; done))) rfl rfl ?_; clear hf; clear a; intro a hf
      refine q_v hf (yv_pick_f rfl (by first | assumption | rfl | (simp; done)) rfl) (.inl rfl) rfl rfl ?_; clear hf; clear a; intro a hf
      refine q_v hf (yv_assign rfl) (.inl rfl) rfl rfl ?_; clear hf; clear a; intro a hf
      refine q_end fun w hh => ?_
      refine then_n ?_
      refine sy_ret ?_
      refine ret_r hf rfl rfl ?_
      refine ⟨congrArg Value.bool ?_, hh.ext⟩
      first
        | (refine isPlanI_no fun h0 hip => ?_
           have hi := (isPlan_land b p.toNat).1 hip
           have hi1 := hi.1; have hi2 := hi.2.1
           omega)
        | (have h0 : 0 ≤ p := by omega
           have hlt : p.toNat < 2 ^ b.slots.toNat := by omega
           have hla : p.toNat &&& b.broken.toNat = 0 := by omega
           have hl := isPlan_land b p.toNat
           have hpi : isPlanI b p = isPlan b p.toNat := by unfold isPlanI; simp [h0]
           rw [hpi, Bool.eq_iff_iff, hl, decide_eq_true_eq]
           exact ⟨fun h => ⟨hlt, hla, h⟩, fun h => h.2.2⟩)
  · have hG2 := hg2; try simp only [gS] at hG2
    refine q_off hf (goff rfl rfl rfl (by first | assumption | rfl | (simp; done))) rfl rfl ?_; clear hf; clear a; intro a hf
    refine q_off hf (goff rfl rfl rfl (by first | assumption | rfl | (simp; done))) rfl rfl ?_; clear hf; clear a; intro a hf
    refine q_off hf (goff rfl rfl rfl (by first | assumption | rfl | (simp; done))) rfl rfl ?_; clear hf; clear a; intro a hf
    refine q_off hf (goff rfl rfl rfl (by first | assumption | rfl | (simp; done))) rfl rfl ?_; clear hf; clear a; intro a hf
    refine q_off hf (goff rfl rfl rfl (by first | assumption | rfl | (simp; done))) rfl rfl ?_; clear hf; clear a; intro a hf
    refine q_off hf (goff rfl rfl rfl (by first | assumption | rfl | (simp; done))) rfl rfl ?_; clear hf; clear a; intro a hf
    refine q_off hf (goff rfl rfl rfl (by first | assumption | rfl | (simp; done))) rfl rfl ?_; clear hf; clear a; intro a hf
    refine q_off hf (goff rfl rfl rfl (by first | assumption | rfl | (simp; done))) rfl rfl ?_; clear hf; clear a; intro a hf
    refine q_v hf (yv_pick_f rfl (by first | assumption | rfl | (simp; done)) rfl) (.inl rfl) rfl rfl ?_; clear hf; clear a; intro a hf
    refine q_v hf (yv_move rfl) (.inl rfl) rfl rfl ?_; clear hf; clear a; intro a hf
    refine q_off hf (goff rfl rfl rfl (by first | assumption | rfl | (simp; done))) rfl rfl ?_; clear hf; clear a; intro a hf
    refine q_off hf (goff rfl rfl rfl (by first | assumption | rfl | (simp; done))) rfl rfl ?_; clear hf; clear a; intro a hf
    refine q_off hf (goff rfl rfl rfl (by first | assumption | rfl | (simp; done))) rfl rfl ?_; clear hf; clear a; intro a hf
    refine q_off hf (goff rfl rfl rfl (by first | assumption | rfl | (simp; done))) rfl rfl ?_; clear hf; clear a; intro a hf
    refine q_off hf (goff rfl rfl rfl (by first | assumption | rfl | (simp; done))) rfl rfl ?_; clear hf; clear a; intro a hf
    refine q_off hf (goff rfl rfl rfl (by first | assumption | rfl | (simp; done))) rfl rfl ?_; clear hf; clear a; intro a hf
    refine q_off hf (goff rfl rfl rfl (by first | assumption | rfl | (simp; done))) rfl rfl ?_; clear hf; clear a; intro a hf
    refine q_off hf (goff rfl rfl rfl (by first | assumption | rfl | (simp; done))) rfl rfl ?_; clear hf; clear a; intro a hf
    refine q_off hf (goff rfl rfl rfl (by first | assumption | rfl | (simp; done))) rfl rfl ?_; clear hf; clear a; intro a hf
    refine q_v hf (yv_pick_f rfl (by first | assumption | rfl | (simp; done)) rfl) (.inl rfl) rfl rfl ?_; clear hf; clear a; intro a hf
    refine q_v hf (yv_assign rfl) (.inl rfl) rfl rfl ?_; clear hf; clear a; intro a hf
    refine q_end fun w hh => ?_
    refine then_n ?_
    refine sy_ret ?_
    refine ret_r hf rfl rfl ?_
    refine ⟨congrArg Value.bool ?_, hh.ext⟩
    first
      | (refine isPlanI_no fun h0 hip => ?_
         have hi := (isPlan_land b p.toNat).1 hip
         have hi1 := hi.1; have hi2 := hi.2.1
         omega)
      | (have h0 : 0 ≤ p := by omega
         have hlt : p.toNat < 2 ^ b.slots.toNat := by omega
         have hla : p.toNat &&& b.broken.toNat = 0 := by omega
         have hl := isPlan_land b p.toNat
         have hpi : isPlanI b p = isPlan b p.toNat := by unfold isPlanI; simp [h0]
         rw [hpi, Bool.eq_iff_iff, hl, decide_eq_true_eq]
         exact ⟨fun h => ⟨hlt, hla, h⟩, fun h => h.2.2⟩)
theorem c49 (b : BarD) (sa : Option Addr) (sc bp bm : Nat) (w : World) (hV : Valid b) (hB : BarO w b sa sc bp bm) : Calls Tryz.prog 52 #[ptr bp 0] w (Ret fun v w' => v = .int .u64 ((2 ^ b.scenes.length - 1 : Nat) : Int) ∧ Ext [] w w') := by
  refine calls_of Tryz.func52 rfl rfl (fun a hf => ?_)
  have hh := Hp.init w []
  obtain ⟨cs, hb, hcs⟩ := hB
  have c0 := hcs.c0; have c1 := hcs.c1; have c2 := hcs.c2; have c3 := hcs.c3; have c4 := hcs.c4
  have hs1 := hV.s1; have hs2 := hV.s2; have hk1 := hV.k1; have hk2 := hV.k2; have hn := hV.n
  have hpw := shl_bd hs1 hs2
  have hpw2 := cast_pow b.slots.toNat
  have hm1 : 1 ≤ 2 ^ ((b.scenes.length : Nat) : Int).toNat := Nat.one_le_two_pow
  have hm2 : 2 ^ ((b.scenes.length : Nat) : Int).toNat ≤ 2 ^ 10 := Nat.pow_le_pow_right (by omega) (by simpa using hn)
  refine sy_seq ?_
  refine sy_ops ?_
  refine ops_v hf hh (yv_assign rfl) (.inl rfl) rfl rfl rfl ?_; clear hf; clear a; intro a hf
  refine ops_end ?_
  refine then_n ?_
  refine sy_seq ?_
  refine sy_ops ?_
  refine ops_v hf hh (yv_move rfl) (.inl rfl) rfl rfl rfl ?_; clear hf; clear a; intro a hf
  refine ops_v hf hh (yv_nilCheck rfl) (.inl rfl) rfl rfl rfl ?_; clear hf; clear a; intro a hf
  refine ops_v hf hh (yv_fieldAddr Tryz.fo_128_0 rfl) (.inl rfl) rfl rfl rfl ?_; clear hf; clear a; intro a hf
  refine ops_v hf hh (yv_fieldAddr Tryz.fo_24_4 rfl) (.inl rfl) rfl rfl rfl ?_; clear hf; clear a; intro a hf
  refine ops_v hf hh (yv_load Tryz.sc_22 rfl (fun _ h => by first | exact h.at (i := 0) rfl | exact h.old hb) (by first | rfl | assumption)) (.inl rfl) rfl rfl rfl ?_; clear hf; clear a; intro a hf
  refine ops_v hf hh (yv_len Tryz.se_22 rfl) (.inl rfl) rfl rfl rfl ?_; clear hf; clear a; intro a hf
  refine ops_v hf hh (yv_shl1 (.inr rfl) rfl rfl (by omega) (by omega)) (.inl rfl) rfl rfl rfl ?_; clear hf; clear a; intro a hf
  first | refine ops_v hf hh (yv_subx (.inr rfl) rfl rfl (by omega) (by simp only [IntKind.top]; omega)) (.inl rfl) rfl rfl rfl ?_; clear hf; clear a; intro a hf | refine ops_v hf hh (yv_bin rfl rfl rfl) (.inl rfl) rfl rfl rfl ?_; clear hf; clear a; intro a hf
  refine ops_v hf hh (yv_assign rfl) (.inl rfl) rfl rfl rfl ?_; clear hf; clear a; intro a hf
  refine ops_end ?_
  refine then_n ?_
  refine sy_ret ?_
  refine ret_r hf rfl rfl ?_
  refine ⟨intv ?_, hh.ext⟩
  rw [Int.toNat_natCast] at *
  omega
end Go.Proofs.YtccpgpnekoncoaaGreatDoor

namespace Go.BarM
open Go Go.Sy
theorem low_clear (t : Nat) : ∀ q : Nat, q.testBit t = true → (∀ i, i < t → q.testBit i = false) → ∀ j, (q &&& (q - 1)).testBit j = (q.testBit j && decide (j ≠ t)) := by
  induction t with
  | zero =>
    intro q h _ j
    rw [Nat.testBit_zero] at h
    have h1 : q % 2 = 1 := by simpa using h
    rw [Nat.testBit_and]
    cases j with
    | zero => simp [Nat.testBit_zero]; omega
    | succ j => rw [Nat.testBit_succ, Nat.testBit_succ, show (q - 1) / 2 = q / 2 by omega]; simp
  | succ t ih =>
    intro q h hl j
    have h0 := hl 0 (by omega)
    rw [Nat.testBit_zero] at h0
    have h1 : q % 2 = 0 := by simp at h0; omega
    have hq : q ≠ 0 := by rintro rfl; simp at h
    rw [Nat.testBit_succ] at h
    have e := ih (q / 2) h (fun i hi => by rw [← Nat.testBit_succ]; exact hl (i + 1) (by omega))
    cases j with
    | zero => rw [Nat.testBit_and, Nat.testBit_zero]; simp [h1]
    | succ j =>
      have := e j
      rw [Nat.testBit_and] at this
      rw [Nat.testBit_and, Nat.testBit_succ, Nat.testBit_succ, show (q - 1) / 2 = q / 2 - 1 by omega, this]
      simp
theorem ctz_bits {q : Nat} (h0 : q ≠ 0) (h : q < 65536) : Lib.ctz 64 q < 16 ∧ q.testBit (Lib.ctz 64 q) = true ∧ ∀ i, i < Lib.ctz 64 q → q.testBit i = false := by
  obtain ⟨m, hm, _⟩ := Lib.ctzFrom_spec 64 q (by omega) (by omega)
  have e : Lib.ctz 64 q = Lib.ctzFrom 64 q := by simp [Lib.ctz, h0]
  rw [e]
  generalize Lib.ctzFrom 64 q = t at hm
  have h1 : q.testBit t = true := by rw [hm, Nat.testBit_two_pow_mul]; simp [Nat.testBit_zero]
  have h2 : ∀ i, i < t → q.testBit i = false := by
    intro i hi; rw [hm, Nat.testBit_two_pow_mul]
    have : ¬ i ≥ t := by omega
    simp [this]
  refine ⟨?_, h1, h2⟩
  by_cases ht : t < 16
  · exact ht
  · have := Nat.testBit_lt_two_pow (x := q) (i := t) (Nat.lt_of_lt_of_le h (Nat.pow_le_pow_right (n := 2) (by omega) (show 16 ≤ t by omega)))
    rw [this] at h1; cases h1
def bitsOf (q : Nat) : List Nat := (List.range 16).filter (q.testBit ·)
theorem bitsOf_zero : bitsOf 0 = [] := by simp [bitsOf]
theorem bitsOf_next {q : Nat} (h0 : q ≠ 0) (h : q < 65536) : bitsOf q = Lib.ctz 64 q :: bitsOf (q &&& (q - 1)) := by
  obtain ⟨h1, h2, h3⟩ := ctz_bits h0 h
  have h4 := low_clear _ q h2 h3
  generalize Lib.ctz 64 q = t at *
  unfold bitsOf
  have hr : List.range 16 = List.range' 0 t ++ t :: List.range' (t + 1) (15 - t) := by
    have e1 : List.range' 0 16 = List.range' 0 t ++ List.range' (0 + t) (16 - t) := by rw [List.range'_append_1]; congr 1; omega
    rw [List.range_eq_range', e1, show 16 - t = (15 - t) + 1 by omega, List.range'_succ, Nat.zero_add]
  rw [hr, List.filter_append, List.filter_append, List.filter_cons, List.filter_cons]
  have a1 : (List.range' 0 t).filter (q.testBit ·) = [] := by
    rw [List.filter_eq_nil_iff]; intro x hx; rw [List.mem_range'_1] at hx; simp [h3 x (by omega)]
  have a2 : (List.range' 0 t).filter ((q &&& (q - 1)).testBit ·) = [] := by
    rw [List.filter_eq_nil_iff]; intro x hx; rw [List.mem_range'_1] at hx; rw [h4]; simp [h3 x (by omega)]
  have a3 : (List.range' (t + 1) (15 - t)).filter (q.testBit ·) = (List.range' (t + 1) (15 - t)).filter ((q &&& (q - 1)).testBit ·) := by
    apply List.filter_congr; intro x hx; rw [List.mem_range'_1] at hx; rw [h4]; simp; omega
  rw [a1, a2, a3, h4 t, h2]
  simp
/-- The two slots at a, d apart, if they take a scene. -/
def cand (p : Nat) (s : Scn) (d a : Nat) : Option (Nat × Nat × Nat) := if (between p a (a + d) : Int) ≤ s.calm then some (between p a (a + d), a, a + d) else none
def rowD (p : Nat) (s : Scn) (d : Nat) : List (Nat × Nat × Nat) := (bitsOf (p &&& (p >>> d))).filterMap (cand p s d)
def restD (p : Nat) (s : Scn) (hi d : Nat) : List (Nat × Nat × Nat) := (List.range' d (hi + 1 - d)).flatMap (rowD p s)
theorem restD_step (p : Nat) (s : Scn) {hi d : Nat} (h : d ≤ hi) : restD p s hi d = (bitsOf (p &&& (p >>> d))).filterMap (cand p s d) ++ restD p s hi (d + 1) := by
  unfold restD
  rw [show hi + 1 - d = (hi + 1 - (d + 1)) + 1 by omega, List.range'_succ, List.flatMap_cons]; rfl
theorem restD_end (p : Nat) (s : Scn) {hi d : Nat} (h : hi < d) : restD p s hi d = [] := by
  unfold restD
  rw [show hi + 1 - d = 0 by omega]; rfl
theorem next_yes {p : Nat} {s : Scn} {d q : Nat} {L D R : List (Nat × Nat × Nat)} (h : (between p (Lib.ctz 64 q) (Lib.ctz 64 q + d) : Int) ≤ s.calm) (h0 : q ≠ 0) (hq : q < 65536) (hx : L = D ++ ((bitsOf q).filterMap (cand p s d) ++ R)) :
    L = D ++ ((between p (Lib.ctz 64 q) (Lib.ctz 64 q + d), Lib.ctz 64 q, Lib.ctz 64 q + d) :: ((bitsOf (q &&& (q - 1))).filterMap (cand p s d) ++ R)) := by
  rw [hx, bitsOf_next h0 hq, List.filterMap_cons]
  have : cand p s d (Lib.ctz 64 q) = some (between p (Lib.ctz 64 q) (Lib.ctz 64 q + d), Lib.ctz 64 q, Lib.ctz 64 q + d) := by unfold cand; rw [if_pos h]
  rw [this]; rfl
theorem next_no {p : Nat} {s : Scn} {d q : Nat} {L D R : List (Nat × Nat × Nat)} (h : ¬ (between p (Lib.ctz 64 q) (Lib.ctz 64 q + d) : Int) ≤ s.calm) (h0 : q ≠ 0) (hq : q < 65536) (hx : L = D ++ ((bitsOf q).filterMap (cand p s d) ++ R)) :
    L = D ++ ((bitsOf (q &&& (q - 1))).filterMap (cand p s d) ++ R) := by
  rw [hx, bitsOf_next h0 hq, List.filterMap_cons]
  have : cand p s d (Lib.ctz 64 q) = none := by unfold cand; rw [if_neg h]
  rw [this]
end Go.BarM

namespace Go.Proofs.YtccpgpnekoncoaaGreatDoor
open Go Go.Sy Go.BarM
theorem c42 (bp p i : Nat) (u : World) : Calls Tryz.prog 24 #[ptr bp 0, .int .u64 p, .int .i64 i] u
    (Ret fun v w' => ∃ B1 B2 B3, v = .func (.func 59) #[] #[ptr B1 0, ptr B2 0, ptr B3 0] ∧ Hp u [] [(B2, .cells #[.int .i64 i] 3), (B3, .cells #[.int .u64 p] 75), (B1, .cells #[ptr bp 0] 62)] w') := by
  refine calls_of Tryz.func24 rfl rfl (fun a hf => ?_)
  have hh := Hp.init u []
  refine sy_seq ?_
  refine sy_ops ?_
  refine ops_box hf hh rfl (.inl rfl) rfl ?_; clear hf hh; clear a; intro B3 a w hf hh
  refine ops_box hf hh rfl (.inl rfl) rfl ?_; clear hf hh; clear a; intro B4 a w hf hh
  refine ops_box hf hh rfl (.inl rfl) rfl ?_; clear hf hh; clear a; intro B5 a w hf hh
  refine ops_v hf hh (yv_assign rfl) (.inl rfl) rfl rfl rfl ?_; clear hf; clear a; intro a hf
  refine ops_end ?_
  refine then_n ?_
  refine sy_seq ?_
  refine sy_ops ?_
  refine ops_v hf hh (yv_makeFunc rfl rfl) (.inl rfl) rfl rfl rfl ?_; clear hf; clear a; intro a hf
  refine ops_v hf hh (yv_assign rfl) (.inl rfl) rfl rfl rfl ?_; clear hf; clear a; intro a hf
  refine ops_end ?_
  refine then_n ?_
  refine sy_ret ?_
  refine ret_r hf rfl rfl ?_
  exact ⟨B3, B5, B4, rfl, hh⟩
/-- What the iterator of pairs looks at. -/
def MemP (b : BarD) (sa : Option Addr) (sc bp bm p i B1 B2 B3 : Nat) (w : World) : Prop :=
  w.heap[B1]? = some (.cells #[ptr bp 0] 62 (0, 0)) ∧ w.heap[B2]? = some (.cells #[.int .i64 i] 3 (0, 0)) ∧ w.heap[B3]? = some (.cells #[.int .u64 p] 75 (0, 0)) ∧ BarO w b sa sc bp bm ∧ ScAt w sa b.scenes ∧ GTab w
def tw (x : Nat × Nat × Nat) : Array Value := #[.agg #[.int .i64 x.1, .int .i64 x.2.1, .int .i64 x.2.2]]
/-- The pairs of slots by which a plan takes a scene, in the program's order. -/
def pairsP (b : BarD) (p : Nat) (s : Scn) : List (Nat × Nat × Nat) := restD p s (hiS b s).toNat (loS b s).toNat
theorem at_done {L D R : List (Nat × Nat × Nat)} {x : Nat × Nat × Nat} (h : L = D ++ x :: R) : (L.map tw)[D.length]? = some (tw x) := by
  subst h; simp
theorem it62 (b : BarD) (sa : Option Addr) (sc bp bm p i B1 B2 B3 : Nat) (s : Scn) (hV : Valid b) (hs : b.scenes[i]? = some s) (hp : p < 65536) :
    IterSpec Tryz.prog 59 #[] #[ptr B1 0, ptr B2 0, ptr B3 0] ((pairsP b p s).map tw) (MemP b sa sc bp bm p i B1 B2 B3) := by
  intro l J K u hJM hJe hKe hy hJ0
  have hil := len_of hs
  have hn := hV.n
  have hO := hV.sc s (List.mem_of_getElem? hs)
  have hlb := loS_bd hV hO
  have hhb := hiS_bd hV hO
  have hs2 := hV.s2
  have hle2 := @Nat.and_le_left p
  obtain ⟨blk, off, _, _, _, e, _, _⟩ := (hJM _ _ hJ0).2.2.2.2.1 i s hs; subst e
  show Calls Tryz.prog 59 #[.func (.yield l) #[] #[], ptr B1 0, ptr B2 0, ptr B3 0] u _
  refine calls_of Tryz.func59 rfl rfl (fun a hf => ?_)
  have hh := Hp.init u []
  obtain ⟨m1, m2, m3, ⟨cs, hb, hcs⟩, hS, hT⟩ := hJM _ _ hJ0
  obtain ⟨blk', off', c, T, fr, e, hbs, hc⟩ := hS i s hs; cases e
  have c4 := hcs.c4
  have hlo : cs[0 + 5 + ((i : Nat) : Int).toNat * 2 + (0 : Int).toNat * 1]? = some (.int .i64 (loS b s)) := by simpa using hcs.lo i s hil hs
  have hhi : cs[0 + 5 + ((i : Nat) : Int).toNat * 2 + (1 : Int).toNat * 1]? = some (.int .i64 (hiS b s)) := by simpa using hcs.hi i s hil hs
  have hcalm : c[off + ((i : Nat) : Int).toNat * 3 + 2]? = some (.int .i64 s.calm) := by simpa using (cellsAt_get 3 _ _ hc).2 2 _ rfl
  have hh := Hp.init u []
  refine sy_seq ?_
  refine sy_quiet (C := Hp _ _ _) Tryz.follows (by kernel_rfl) (hh.drawn _) ?_
  refine q_v hf (yv_load Tryz.sc_62 rfl (fun _ h => by first | exact h.at (i := 0) rfl | exact h.old m1 | exact h.old m2 | exact h.old m3 | exact h.old hb | exact h.old hbs) (by first | rfl | assumption)) (.inl rfl) rfl rfl ?_; clear hf; clear a; intro a hf
  refine q_v hf (yv_load Tryz.sc_3 rfl (fun _ h => by first | exact h.at (i := 0) rfl | exact h.old m1 | exact h.old m2 | exact h.old m3 | exact h.old hb | exact h.old hbs) (by first | rfl | assumption)) (.inl rfl) rfl rfl ?_; clear hf; clear a; intro a hf
  refine q_v hf (yv_nilCheck rfl) (.inl rfl) rfl rfl ?_; clear hf; clear a; intro a hf
  refine q_v hf (yv_fieldAddr Tryz.fo_128_1 rfl) (.inl rfl) rfl rfl ?_; clear hf; clear a; intro a hf
  refine q_v hf (yv_indexArr Tryz.ae_126 rfl rfl (by omega) (by omega)) (.inl rfl) rfl rfl ?_; clear hf; clear a; intro a hf
  refine q_v hf (yv_indexArr Tryz.ae_83 rfl rfl (by omega) (by omega)) (.inl rfl) rfl rfl ?_; clear hf; clear a; intro a hf
  refine q_v hf (yv_load Tryz.sc_3 rfl (fun _ h => by first | exact h.at (i := 0) rfl | exact h.old m1 | exact h.old m2 | exact h.old m3 | exact h.old hb | exact h.old hbs) (by first | rfl | assumption)) (.inl rfl) rfl rfl ?_; clear hf; clear a; intro a hf
  refine q_v hf (yv_assign rfl) (.inl rfl) rfl rfl ?_; clear hf; clear a; intro a hf
  refine q_end fun w hh => ?_
  refine then_n ?_
  refine sy_block ?_
  refine sy_loopH (σ := Nat) [5, 6, 7, 8, 16, 17, 18, 19, 20, 21, 22, 23, 24, 25, 26, 27, 28, 29, 30, 31, 32, 33, 34, 35, 36, 37, 38, 39, 40, 41, 42, 43, 44, 45, 46, 47, 48, 49, 50, 51, 52, 53, 54, 55, 56, 57, 58, 59, 60, 61, 62, 63, 64, 65, 66, 67] (fun d => [(5, .int .i64 d)]) (fun d => fun w' => (1 ≤ d ∧ d ≤ 20001) ∧ ∃ done, pairsP b p s = done ++ restD p s (hiS b s).toNat d ∧ J done.length w') (fun d => 20002 - d) ((loS b s).toNat) hf ?_ ?_ ?_
  · exact ⟨congrArg (fun z => some (Value.int IntKind.i64 z)) (Int.toNat_of_nonneg (by omega)).symm, True.intro⟩
  · exact ⟨by omega, [], rfl, hJe _ _ _ hJ0 hh.ext⟩
  · rintro d a w ⟨⟨hd1, hd2⟩, done, hx, hJ⟩ hf
    obtain ⟨m1, m2, m3, ⟨cs, hb, hcs⟩, hS, hT⟩ := hJM _ _ hJ
    obtain ⟨blk', off', c, T, fr, e, hbs, hc⟩ := hS i s hs; cases e
    have c4 := hcs.c4
    have hlo : cs[0 + 5 + ((i : Nat) : Int).toNat * 2 + (0 : Int).toNat * 1]? = some (.int .i64 (loS b s)) := by simpa using hcs.lo i s hil hs
    have hhi : cs[0 + 5 + ((i : Nat) : Int).toNat * 2 + (1 : Int).toNat * 1]? = some (.int .i64 (hiS b s)) := by simpa using hcs.hi i s hil hs
    have hcalm : c[off + ((i : Nat) : Int).toNat * 3 + 2]? = some (.int .i64 s.calm) := by simpa using (cellsAt_get 3 _ _ hc).2 2 _ rfl
    have hh := Hp.init w []
    refine sy_seq ?_
    refine sy_seq ?_
    refine sy_quiet (C := Hp _ _ _) Tryz.follows (by kernel_rfl) (hh.drawn _) ?_
    refine q_v hf (yv_move rfl) (.inl rfl) rfl rfl ?_; clear hf; clear a; intro a hf
    refine q_v hf (yv_load Tryz.sc_62 rfl (fun _ h => by first | exact h.at (i := 0) rfl | exact h.old m1 | exact h.old m2 | exact h.old m3 | exact h.old hb | exact h.old hbs) (by first | rfl | assumption)) (.inl rfl) rfl rfl ?_; clear hf; clear a; intro a hf
    refine q_v hf (yv_load Tryz.sc_3 rfl (fun _ h => by first | exact h.at (i := 0) rfl | exact h.old m1 | exact h.old m2 | exact h.old m3 | exact h.old hb | exact h.old hbs) (by first | rfl | assumption)) (.inl rfl) rfl rfl ?_; clear hf; clear a; intro a hf
    refine q_v hf (yv_nilCheck rfl) (.inl rfl) rfl rfl ?_; clear hf; clear a; intro a hf
    refine q_v hf (yv_fieldAddr Tryz.fo_128_1 rfl) (.inl rfl) rfl rfl ?_; clear hf; clear a; intro a hf
    refine q_v hf (yv_indexArr Tryz.ae_126 rfl rfl (by omega) (by omega)) (.inl rfl) rfl rfl ?_; clear hf; clear a; intro a hf
    refine q_v hf (yv_indexArr Tryz.ae_83 rfl rfl (by omega) (by omega)) (.inl rfl) rfl rfl ?_; clear hf; clear a; intro a hf
    refine q_v hf (yv_load Tryz.sc_3 rfl (fun _ h => by first | exact h.at (i := 0) rfl | exact h.old m1 | exact h.old m2 | exact h.old m3 | exact h.old hb | exact h.old hbs) (by first | rfl | assumption)) (.inl rfl) rfl rfl ?_; clear hf; clear a; intro a hf
    refine q_v hf (yv_bin rfl rfl rfl) (.inl rfl) rfl rfl ?_; clear hf; clear a; intro a hf
    refine q_end fun w hh => ?_
    refine then_n ?_
    refine sy_cond hf rfl (fun hg2 => ?_) (fun hg2 => ?_)
    · have hG2 := hg2; try simp only [gS] at hG2
      refine sy_skip ?_
      refine then_n ?_
      refine sy_seq ?_
      refine sy_block ?_
      refine sy_seq ?_
      have hshr := Nat.shiftRight_le p d
      obtain ⟨z, hz⟩ : ∃ z, z = p >>> d := ⟨_, rfl⟩
      rw [← hz] at hshr
      have hle := @Nat.and_le_left p z
      refine sy_quiet (C := Hp _ _ _) Tryz.follows (by kernel_rfl) (hh.drawn _) ?_
      refine q_v hf (yv_load Tryz.sc_75 rfl (fun _ h => by first | exact h.at (i := 0) rfl | exact h.old m1 | exact h.old m2 | exact h.old m3 | exact h.old hb | exact h.old hbs) (by first | rfl | assumption)) (.inl rfl) rfl rfl ?_; clear hf; clear a; intro a hf
      refine q_v hf (yv_load Tryz.sc_75 rfl (fun _ h => by first | exact h.at (i := 0) rfl | exact h.old m1 | exact h.old m2 | exact h.old m3 | exact h.old hb | exact h.old hbs) (by first | rfl | assumption)) (.inl rfl) rfl rfl ?_; clear hf; clear a; intro a hf
      refine q_v hf (yv_move rfl) (.inl rfl) rfl rfl ?_; clear hf; clear a; intro a hf
      refine q_v hf (yv_cast (yv_shrx (.inr rfl) rfl rfl (by omega) (by omega) (by omega)) (intv (b := ((p >>> d : Nat) : Int)) (by rw [Int.toNat_natCast, Int.toNat_natCast]))) (.inl rfl) rfl rfl ?_; clear hf; clear a; intro a hf
      refine q_v hf (yv_cast (yv_and (.inr rfl) rfl rfl (by omega) (by simp only [IntKind.top]; omega) (by rw [← hz]; omega) (by rw [← hz]; simp only [IntKind.top]; omega)) (intv (b := ((p &&& (p >>> d) : Nat) : Int)) (by rw [Int.toNat_natCast, Int.toNat_natCast]))) (.inl rfl) rfl rfl ?_; clear hf; clear a; intro a hf
      refine q_v hf (yv_assign rfl) (.inl rfl) rfl rfl ?_; clear hf; clear a; intro a hf
      refine q_end fun w hh => ?_
      refine then_n ?_
      refine sy_block ?_
      refine sy_loopH (σ := Nat) [6, 7, 8, 32, 33, 34, 35, 36, 37, 38, 39, 40, 41, 42, 43, 44, 45, 46, 47, 48, 49, 50, 51, 52, 53, 54, 55, 56, 57, 58, 59, 60, 61, 62, 63, 64, 65, 66, 67] (fun q => [(6, .int .u64 q)]) (fun q => fun w' => q < 65536 ∧ ∃ done, pairsP b p s = done ++ ((bitsOf q).filterMap (cand p s d) ++ restD p s (hiS b s).toNat (d + 1)) ∧ J done.length w') (fun q => q) (p &&& (p >>> d)) hf ?_ ?_ ?_
      · exact ⟨rfl, True.intro⟩
      · exact ⟨by rw [← hz]; omega, done, by rw [hx, restD_step p s (by omega)], hJe _ _ _ hJ hh.ext⟩
      · rintro q a w ⟨hq, done2, hx2, hJ2⟩ hf
        obtain ⟨m1, m2, m3, ⟨cs, hb, hcs⟩, hS, hT⟩ := hJM _ _ hJ2
        obtain ⟨blk', off', c, T, fr, e, hbs, hc⟩ := hS i s hs; cases e
        have c4 := hcs.c4
        have hlo : cs[0 + 5 + ((i : Nat) : Int).toNat * 2 + (0 : Int).toNat * 1]? = some (.int .i64 (loS b s)) := by simpa using hcs.lo i s hil hs
        have hhi : cs[0 + 5 + ((i : Nat) : Int).toNat * 2 + (1 : Int).toNat * 1]? = some (.int .i64 (hiS b s)) := by simpa using hcs.hi i s hil hs
        have hcalm : c[off + ((i : Nat) : Int).toNat * 3 + 2]? = some (.int .i64 s.calm) := by simpa using (cellsAt_get 3 _ _ hc).2 2 _ rfl
        have hh := Hp.init w []
        refine sy_seq ?_
        refine sy_seq ?_
        refine sy_ops ?_
        refine ops_v hf hh (yv_move rfl) (.inl rfl) rfl rfl rfl ?_; clear hf; clear a; intro a hf
        refine ops_v hf hh (yv_bin rfl rfl rfl) (.inl rfl) rfl rfl rfl ?_; clear hf; clear a; intro a hf
        refine ops_end ?_
        refine then_n ?_
        refine sy_cond hf rfl (fun hg6 => ?_) (fun hg6 => ?_)
        · have hG6 := hg6; try simp only [gS] at hG6
          refine sy_skip ?_
          refine then_n ?_
          refine sy_seq ?_
          refine sy_block ?_
          refine sy_seq ?_
          have hq0 : q ≠ 0 := by omega
          obtain ⟨ht16, _, _⟩ := ctz_bits hq0 hq
          refine sy_ops ?_
          refine ops_v hf hh (yv_move rfl) (.inl rfl) rfl rfl rfl ?_; clear hf; clear a; intro a hf
          refine ops_call hf Tryz.en_60 rfl rfl rfl (.inl rfl) rfl (c63 q hq (by omega) _ (hT.ext hh.ext (by simp))) ?_; clear hf; clear a; intro v a w hR hf
          obtain ⟨rfl, hx⟩ := hR; replace hh := hh.more hx; clear hx
          refine ops_v hf hh (yv_assign rfl) (.inl rfl) rfl rfl rfl ?_; clear hf; clear a; intro a hf
          refine ops_end ?_
          refine then_n ?_
          refine sy_seq ?_
          refine sy_ops ?_
          refine ops_v hf hh (yv_load Tryz.sc_75 rfl (fun _ h => by first | exact h.at (i := 0) rfl | exact h.old m1 | exact h.old m2 | exact h.old m3 | exact h.old hb | exact h.old hbs) (by first | rfl | assumption)) (.inl rfl) rfl rfl rfl ?_; clear hf; clear a; intro a hf
          refine ops_v hf hh (yv_move rfl) (.inl rfl) rfl rfl rfl ?_; clear hf; clear a; intro a hf
          refine ops_v hf hh (yv_move rfl) (.inl rfl) rfl rfl rfl ?_; clear hf; clear a; intro a hf
          refine ops_v hf hh (yv_move rfl) (.inl rfl) rfl rfl rfl ?_; clear hf; clear a; intro a hf
          refine ops_v hf hh (yv_cast (yv_add rfl rfl (by omega) (by omega)) (intv (b := ((Lib.ctz 64 q + d : Nat) : Int)) (by omega))) (.inl rfl) rfl rfl rfl ?_; clear hf; clear a; intro a hf
          refine ops_call hf Tryz.en_61 rfl rfl rfl (.inl rfl) rfl (c64 p (Lib.ctz 64 q) (Lib.ctz 64 q + d) _ hp (by omega) (by omega)) ?_; clear hf; clear a; intro v a w hR hf
          obtain ⟨rfl, hx⟩ := hR; replace hh := hh.more hx; clear hx
          refine ops_v hf hh (yv_assign rfl) (.inl rfl) rfl rfl rfl ?_; clear hf; clear a; intro a hf
          refine ops_end ?_
          refine then_n ?_
          refine sy_seq ?_
          refine sy_tail (C := Hp _ _ _) 19 Tryz.follows (by kernel_rfl) rfl rfl (hh.drawn _) ?_
          refine q_v hf (yv_move rfl) (.inl rfl) rfl rfl ?_; clear hf; clear a; intro a hf
          refine q_v hf (yv_load Tryz.sc_62 rfl (fun _ h => by first | exact h.at (i := 0) rfl | exact h.old m1 | exact h.old m2 | exact h.old m3 | exact h.old hb | exact h.old hbs) (by first | rfl | assumption)) (.inl rfl) rfl rfl ?_; clear hf; clear a; intro a hf
          refine q_v hf (yv_nilCheck rfl) (.inl rfl) rfl rfl ?_; clear hf; clear a; intro a hf
          refine q_v hf (yv_fieldAddr Tryz.fo_128_0 rfl) (.inl rfl) rfl rfl ?_; clear hf; clear a; intro a hf
          refine q_v hf (yv_fieldAddr Tryz.fo_24_4 rfl) (.inl rfl) rfl rfl ?_; clear hf; clear a; intro a hf
          refine q_v hf (yv_load Tryz.sc_22 rfl (fun _ h => by first | exact h.at (i := 0) rfl | exact h.old m1 | exact h.old m2 | exact h.old m3 | exact h.old hb | exact h.old hbs) (by first | rfl | assumption)) (.inl rfl) rfl rfl ?_; clear hf; clear a; intro a hf
          refine q_v hf (yv_load Tryz.sc_3 rfl (fun _ h => by first | exact h.at (i := 0) rfl | exact h.old m1 | exact h.old m2 | exact h.old m3 | exact h.old hb | exact h.old hbs) (by first | rfl | assumption)) (.inl rfl) rfl rfl ?_; clear hf; clear a; intro a hf
          refine q_v hf (yv_indexAddr Tryz.se_22 rfl rfl (by omega) (by omega)) (.inl rfl) rfl rfl ?_; clear hf; clear a; intro a hf
          refine q_v hf (yv_fieldAddr Tryz.fo_33_2 rfl) (.inl rfl) rfl rfl ?_; clear hf; clear a; intro a hf
          refine q_v hf (yv_load Tryz.sc_3 rfl (fun _ h => by first | exact h.at (i := 0) rfl | exact h.old m1 | exact h.old m2 | exact h.old m3 | exact h.old hb | exact h.old hbs) (by first | rfl | assumption)) (.inl rfl) rfl rfl ?_; clear hf; clear a; intro a hf
          refine q_v hf (yv_bin rfl rfl rfl) (.inl rfl) rfl rfl ?_; clear hf; clear a; intro a hf
          refine q_v hf (yv_move rfl) (.inl rfl) rfl rfl ?_; clear hf; clear a; intro a hf
          refine guard_splitq hf (t := 57) rfl (fun hg11 => ?_) (fun hg11 => ?_)
          · have hG11 := hg11; try simp only [gS] at hG11
            refine q_v hf (yv_move rfl) (gon rfl rfl rfl (by first | assumption | rfl | (simp; done))) rfl rfl ?_; clear hf; clear a; intro a hf
            refine q_v hf (yv_move rfl) (gon rfl rfl rfl (by first | assumption | rfl | (simp; done))) rfl rfl ?_; clear hf; clear a; intro a hf
            refine q_v hf (yv_move rfl) (gon rfl rfl rfl (by first | assumption | rfl | (simp; done))) rfl rfl ?_; clear hf; clear a; intro a hf
            refine q_v hf (yv_move rfl) (gon rfl rfl rfl (by first | assumption | rfl | (simp; done))) rfl rfl ?_; clear hf; clear a; intro a hf
            refine q_v hf (yv_move rfl) (gon rfl rfl rfl (by first | assumption | rfl | (simp; done))) rfl rfl ?_; clear hf; clear a; intro a hf
            refine q_v hf (yv_cast (yv_add rfl rfl (by omega) (by omega)) (intv (b := ((Lib.ctz 64 q + d : Nat) : Int)) (by omega))) (gon rfl rfl rfl (by first | assumption | rfl | (simp; done))) rfl rfl ?_; clear hf; clear a; intro a hf
            refine q_v hf (yv_buildS Tryz.bs_70 rfl rfl) (gon rfl rfl rfl (by first | assumption | rfl | (simp; done))) rfl rfl ?_; clear hf; clear a; intro a hf
            refine q_end fun w hh => ?_
            have hxy := next_yes (by assumption) hq0 hq hx2
            refine ops_yield hf rfl rfl (gon rfl rfl rfl (by first | assumption | rfl | (simp; done))) rfl (hy _ _ _ (at_done hxy) (hJe _ _ _ hJ2 hh.ext)) ?_; clear hf; clear a; intro v a w hR hf
            have hR2 : ∃ o : Bool, v = .bool o ∧ (o = true → J (done2.length + 1) w) ∧ (o = false → K done2.length w) := by
              rcases hR with ⟨rfl, h⟩ | ⟨rfl, h⟩
              · exact ⟨true, rfl, fun _ => h, fun h => by cases h⟩
              · exact ⟨false, rfl, (fun h => by cases h), fun _ => h⟩
            clear hR
            obtain ⟨o, rfl, ho1, ho2⟩ := hR2
            clear hh; have hh := Hp.init w []
            refine ops_v hf hh (yv_not rfl) (gon rfl rfl rfl (by first | assumption | rfl | (simp; done))) rfl rfl rfl ?_; clear hf; clear a; intro a hf
            refine ops_v hf hh (yv_pick_t rfl (by first | assumption | rfl | (simp; done)) rfl) (.inl rfl) rfl rfl rfl ?_; clear hf; clear a; intro a hf
            refine ops_end ?_
            refine then_n ?_
            refine sy_cond hf rfl (fun hg14 => ?_) (fun hg14 => ?_)
            · have hG14 := hg14; try simp only [gS] at hG14
              refine sy_ret ?_
              refine blk_r ?_
              refine then_r ?_
              refine then_r ?_
              refine blk_r ?_
              refine blk_r ?_
              refine then_r ?_
              refine then_r ?_
              refine blk_r ?_
              refine ret_r hf rfl rfl ?_
              first
                | exact .inr ⟨_, hKe _ _ _ (ho2 (by assumption)) hh.ext⟩
                | (refine .inl ?_
                   have hle : pairsP b p s = done := by rw [hx, restD_end p s (by omega), List.append_nil]
                   rw [hle, List.length_map]
                   exact hJe _ _ _ hJ hh.ext)
            · have hG14 := hg14; try simp only [gS] at hG14
              refine sy_skip ?_
              refine blk_n ?_
              refine then_n ?_
              refine sy_ops ?_
              refine ops_v hf hh (yv_move rfl) (.inl rfl) rfl rfl rfl ?_; clear hf; clear a; intro a hf
              refine ops_v hf hh (yv_move rfl) (.inl rfl) rfl rfl rfl ?_; clear hf; clear a; intro a hf
              refine ops_v hf hh (yv_cast (yv_subx (.inr rfl) rfl rfl (by omega) (by simp only [IntKind.top]; omega)) (intv (b := ((q - 1 : Nat) : Int)) (by omega))) (.inl rfl) rfl rfl rfl ?_; clear hf; clear a; intro a hf
              refine ops_v hf hh (yv_cast (yv_and (.inr rfl) rfl rfl (by omega) (by simp only [IntKind.top]; omega) (by omega) (by simp only [IntKind.top]; omega)) (intv (b := ((q &&& (q - 1) : Nat) : Int)) (by rw [Int.toNat_natCast, Int.toNat_natCast]))) (.inl rfl) rfl rfl rfl ?_; clear hf; clear a; intro a hf
              refine ops_v hf hh (yv_assign rfl) (.inl rfl) rfl rfl rfl ?_; clear hf; clear a; intro a hf
              refine ops_end ?_
              refine then_n ?_
              have hlt : q &&& (q - 1) < q := by have := @Nat.and_le_right q (q - 1); omega
              first
                | (have hxy := next_no (by omega) hq0 hq hx2
                   exact ⟨q &&& (q - 1), ⟨⟨by omega, done2, hxy, hJe _ _ _ hJ2 hh.ext⟩, hf.head ⟨rfl, True.intro⟩ (Keep.cons rfl (Keep.cons rfl (Keep.cons rfl (Keep.cons rfl (Keep.cons rfl (Keep.cons rfl (Keep.cons rfl (Keep.cons rfl (Keep.cons rfl (Keep.cons rfl (Keep.cons rfl (Keep.cons rfl (Keep.cons rfl (Keep.cons rfl (Keep.cons rfl (Keep.cons rfl (Keep.cons rfl (Keep.cons rfl (Keep.cons rfl (Keep.cons rfl (Keep.cons rfl (Keep.cons rfl (Keep.cons rfl (Keep.cons rfl (Keep.cons rfl (Keep.cons rfl (Keep.cons rfl (Keep.cons rfl (Keep.cons rfl (Keep.cons rfl (Keep.cons rfl (Keep.cons rfl (Keep.cons rfl (Keep.cons rfl (Keep.cons rfl (Keep.cons rfl (Keep.cons rfl (Keep.cons rfl (Keep.cons rfl (Keep.app rfl (Keep.rm rfl Keep.base)))))))))))))))))))))))))))))))))))))))))⟩, hlt⟩)
                | (refine ⟨q &&& (q - 1), ⟨⟨by omega, done2 ++ [(between p (Lib.ctz 64 q) (Lib.ctz 64 q + d), Lib.ctz 64 q, Lib.ctz 64 q + d)], by rw [hxy, List.append_assoc]; rfl, ?_⟩, hf.head ⟨rfl, True.intro⟩ (Keep.cons rfl (Keep.cons rfl (Keep.cons rfl (Keep.cons rfl (Keep.cons rfl (Keep.cons rfl (Keep.cons rfl (Keep.cons rfl (Keep.cons rfl (Keep.cons rfl (Keep.cons rfl (Keep.cons rfl (Keep.cons rfl (Keep.cons rfl (Keep.cons rfl (Keep.cons rfl (Keep.cons rfl (Keep.cons rfl (Keep.cons rfl (Keep.cons rfl (Keep.cons rfl (Keep.cons rfl (Keep.cons rfl (Keep.cons rfl (Keep.cons rfl (Keep.cons rfl (Keep.cons rfl (Keep.cons rfl (Keep.cons rfl (Keep.cons rfl (Keep.cons rfl (Keep.cons rfl (Keep.cons rfl (Keep.cons rfl (Keep.cons rfl (Keep.cons rfl (Keep.cons rfl (Keep.cons rfl (Keep.cons rfl (Keep.app rfl (Keep.rm rfl Keep.base)))))))))))))))))))))))))))))))))))))))))⟩, hlt⟩
                   rw [List.length_append]
                   exact hJe _ _ _ (ho1 (by assumption)) hh.ext)
          · have hG11 := hg11; try simp only [gS] at hG11
            refine q_off hf (goff rfl rfl rfl (by first | assumption | rfl | (simp; done))) rfl rfl ?_; clear hf; clear a; intro a hf
            refine q_off hf (goff rfl rfl rfl (by first | assumption | rfl | (simp; done))) rfl rfl ?_; clear hf; clear a; intro a hf
            refine q_off hf (goff rfl rfl rfl (by first | assumption | rfl | (simp; done))) rfl rfl ?_; clear hf; clear a; intro a hf
            refine q_off hf (goff rfl rfl rfl (by first | assumption | rfl | (simp; done))) rfl rfl ?_; clear hf; clear a; intro a hf
            refine q_off hf (goff rfl rfl rfl (by first | assumption | rfl | (simp; done))) rfl rfl ?_; clear hf; clear a; intro a hf
            refine q_off hf (goff rfl rfl rfl (by first | assumption | rfl | (simp; done))) rfl rfl ?_; clear hf; clear a; intro a hf
            refine q_off hf (goff rfl rfl rfl (by first | assumption | rfl | (simp; done))) rfl rfl ?_; clear hf; clear a; intro a hf
            refine q_end fun w hh => ?_
            refine ops_off hf (goff rfl rfl rfl (by first | assumption | rfl | (simp; done))) rfl rfl ?_; clear hf; clear a; intro a hf
            refine ops_off hf (goff rfl rfl rfl (by first | assumption | rfl | (simp; done))) rfl rfl ?_; clear hf; clear a; intro a hf
            refine ops_v hf hh (yv_pick_f rfl (by first | assumption | rfl | (simp; done)) rfl) (.inl rfl) rfl rfl rfl ?_; clear hf; clear a; intro a hf
            refine ops_end ?_
            refine then_n ?_
            refine sy_cf hf rfl (by first | assumption | rfl | (simp; done)) ?_
            refine sy_skip ?_
            refine blk_n ?_
            refine then_n ?_
            refine sy_ops ?_
            refine ops_v hf hh (yv_move rfl) (.inl rfl) rfl rfl rfl ?_; clear hf; clear a; intro a hf
            refine ops_v hf hh (yv_move rfl) (.inl rfl) rfl rfl rfl ?_; clear hf; clear a; intro a hf
            refine ops_v hf hh (yv_cast (yv_subx (.inr rfl) rfl rfl (by omega) (by simp only [IntKind.top]; omega)) (intv (b := ((q - 1 : Nat) : Int)) (by omega))) (.inl rfl) rfl rfl rfl ?_; clear hf; clear a; intro a hf
            refine ops_v hf hh (yv_cast (yv_and (.inr rfl) rfl rfl (by omega) (by simp only [IntKind.top]; omega) (by omega) (by simp only [IntKind.top]; omega)) (intv (b := ((q &&& (q - 1) : Nat) : Int)) (by rw [Int.toNat_natCast, Int.toNat_natCast]))) (.inl rfl) rfl rfl rfl ?_; clear hf; clear a; intro a hf
            refine ops_v hf hh (yv_assign rfl) (.inl rfl) rfl rfl rfl ?_; clear hf; clear a; intro a hf
            refine ops_end ?_
            refine then_n ?_
            have hlt : q &&& (q - 1) < q := by have := @Nat.and_le_right q (q - 1); omega
            first
              | (have hxy := next_no (by omega) hq0 hq hx2
                 exact ⟨q &&& (q - 1), ⟨⟨by omega, done2, hxy, hJe _ _ _ hJ2 hh.ext⟩, hf.head ⟨rfl, True.intro⟩ (Keep.cons rfl (Keep.cons rfl (Keep.cons rfl (Keep.cons rfl (Keep.cons rfl (Keep.cons rfl (Keep.cons rfl (Keep.cons rfl (Keep.cons rfl (Keep.cons rfl (Keep.cons rfl (Keep.cons rfl (Keep.cons rfl (Keep.cons rfl (Keep.cons rfl (Keep.cons rfl (Keep.cons rfl (Keep.cons rfl (Keep.cons rfl (Keep.cons rfl (Keep.cons rfl (Keep.cons rfl (Keep.cons rfl (Keep.cons rfl (Keep.cons rfl (Keep.cons rfl (Keep.cons rfl (Keep.cons rfl (Keep.cons rfl (Keep.cons rfl (Keep.cons rfl (Keep.cons rfl (Keep.cons rfl (Keep.cons rfl (Keep.cons rfl (Keep.cons rfl (Keep.cons rfl (Keep.cons rfl (Keep.cons rfl (Keep.app rfl (Keep.rm rfl Keep.base)))))))))))))))))))))))))))))))))))))))))⟩, hlt⟩)
              | (refine ⟨q &&& (q - 1), ⟨⟨by omega, done2 ++ [(between p (Lib.ctz 64 q) (Lib.ctz 64 q + d), Lib.ctz 64 q, Lib.ctz 64 q + d)], by rw [hxy, List.append_assoc]; rfl, ?_⟩, hf.head ⟨rfl, True.intro⟩ (Keep.cons rfl (Keep.cons rfl (Keep.cons rfl (Keep.cons rfl (Keep.cons rfl (Keep.cons rfl (Keep.cons rfl (Keep.cons rfl (Keep.cons rfl (Keep.cons rfl (Keep.cons rfl (Keep.cons rfl (Keep.cons rfl (Keep.cons rfl (Keep.cons rfl (Keep.cons rfl (Keep.cons rfl (Keep.cons rfl (Keep.cons rfl (Keep.cons rfl (Keep.cons rfl (Keep.cons rfl (Keep.cons rfl (Keep.cons rfl (Keep.cons rfl (Keep.cons rfl (Keep.cons rfl (Keep.cons rfl (Keep.cons rfl (Keep.cons rfl (Keep.cons rfl (Keep.cons rfl (Keep.cons rfl (Keep.cons rfl (Keep.cons rfl (Keep.cons rfl (Keep.cons rfl (Keep.cons rfl (Keep.cons rfl (Keep.app rfl (Keep.rm rfl Keep.base)))))))))))))))))))))))))))))))))))))))))⟩, hlt⟩
                 rw [List.length_append]
                 exact hJe _ _ _ (ho1 (by assumption)) hh.ext)
        · have hG6 := hg6; try simp only [gS] at hG6
          refine sy_exit ?_
          refine then_e ?_
          refine then_e ?_
          refine blk_e ?_
          refine blk_n ?_
          refine then_n ?_
          refine sy_ops ?_
          refine ops_v hf hh (yv_move rfl) (.inl rfl) rfl rfl rfl ?_; clear hf; clear a; intro a hf
          first | refine ops_v hf hh (yv_add rfl rfl (by omega) (by omega)) (.inl rfl) rfl rfl rfl ?_; clear hf; clear a; intro a hf | refine ops_v hf hh (yv_bin rfl rfl rfl) (.inl rfl) rfl rfl rfl ?_; clear hf; clear a; intro a hf
          refine ops_v hf hh (yv_assign rfl) (.inl rfl) rfl rfl rfl ?_; clear hf; clear a; intro a hf
          refine ops_end ?_
          refine then_n ?_
          have hq00 : q = 0 := by omega
          subst hq00
          refine ⟨d + 1, ⟨⟨⟨by omega, by omega⟩, done2, by rw [hx2, bitsOf_zero]; rfl, hJe _ _ _ hJ2 hh.ext⟩, hf.head ⟨rfl, True.intro⟩ (Keep.cons rfl (Keep.cons rfl (Keep.cons rfl (Keep.cons rfl (Keep.cons rfl (Keep.app rfl (Keep.rm rfl (Keep.cons rfl (Keep.cons rfl (Keep.cons rfl (Keep.cons rfl (Keep.cons rfl (Keep.cons rfl (Keep.cons rfl (Keep.cons rfl (Keep.cons rfl (Keep.cons rfl (Keep.cons rfl (Keep.cons rfl (Keep.cons rfl (Keep.cons rfl (Keep.cons rfl (Keep.app rfl (Keep.rm rfl Keep.base))))))))))))))))))))))))⟩, by omega⟩
    · have hG2 := hg2; try simp only [gS] at hG2
      refine sy_exit ?_
      refine then_e ?_
      refine then_e ?_
      refine blk_e ?_
      refine ret_n hf rfl rfl ?_
      first
        | exact .inr ⟨_, hKe _ _ _ (ho2 (by assumption)) hh.ext⟩
        | (refine .inl ?_
           have hle : pairsP b p s = done := by rw [hx, restD_end p s (by omega), List.append_nil]
           rw [hle, List.length_map]
           exact hJe _ _ _ hJ hh.ext)
end Go.Proofs.YtccpgpnekoncoaaGreatDoor

namespace Go.BarM
open Go Go.Sy Go.Proofs.YtccpgpnekoncoaaGreatDoor
theorem lo_le {b : BarD} {s : Scn} {d : Int} (hV : Valid b) (hO : OkS s) : loS b s ≤ d ↔ 1 ≤ d ∧ s.least ≤ b.pitch * d := by
  have hp := hV.p1
  unfold loS
  rw [Int.max_le]
  refine and_congr_right fun h1 => ?_
  have e : (s.least + b.pitch - 1) / b.pitch < d + 1 ↔ s.least + b.pitch - 1 < (d + 1) * b.pitch := Int.ediv_lt_iff_lt_mul (by omega)
  have e2 : (d + 1) * b.pitch = b.pitch * d + b.pitch := by rw [Int.add_mul, Int.one_mul, Int.mul_comm]
  rw [e2] at e
  omega
theorem le_hi {b : BarD} {s : Scn} {d : Int} (hV : Valid b) (hO : OkS s) : d ≤ hiS b s ↔ d ≤ b.slots - 1 ∧ b.pitch * d ≤ s.most := by
  have hp := hV.p1
  unfold hiS
  rw [Int.le_min]
  refine and_congr_right fun h1 => ?_
  rw [Int.le_ediv_iff_mul_le (by omega), Int.mul_comm]
theorem bit_lt {p n k : Nat} (h : p < 2 ^ n) (hb : p.testBit k = true) : k < n := by
  by_cases hk : k < n
  · exact hk
  · rw [testBit_lt h (by omega)] at hb; cases hb
theorem mem_pairsP {b : BarD} {p : Nat} {s : Scn} (hV : Valid b) (hO : OkS s) (hp : p < 2 ^ b.slots.toNat) (n l r : Nat) :
    (n, l, r) ∈ pairsP b p s ↔ byB b p s l r = true ∧ n = between p l r := by
  have hs1 := hV.s1; have hs2 := hV.s2
  have hl := loS_bd hV hO; have hh := hiS_bd hV hO
  unfold pairsP restD rowD bitsOf byB
  simp only [List.mem_flatMap, List.mem_range'_1, List.mem_filterMap, List.mem_filter, List.mem_range, Nat.testBit_and, Nat.testBit_shiftRight, Bool.and_eq_true, decide_eq_true_eq]
  constructor
  · rintro ⟨d, ⟨hd1, hd2⟩, a, ⟨ha, hb1, hb2⟩, hc⟩
    unfold cand at hc
    split at hc
    · rename_i hcalm
      simp only [Option.some.injEq, Prod.mk.injEq] at hc
      obtain ⟨rfl, rfl, rfl⟩ := hc
      have e1 := (lo_le (d := (d : Int)) hV hO).1 (by omega)
      have e2 := (le_hi (d := (d : Int)) hV hO).1 (by omega)
      have e3 : (((a + d : Nat) : Int) - (a : Int)) = d := by omega
      rw [e3]
      exact ⟨⟨⟨⟨⟨by omega, hb1⟩, by rw [Nat.add_comm]; exact hb2⟩, e1.2, e2.2⟩, hcalm⟩, rfl⟩
    · cases hc
  · rintro ⟨⟨⟨⟨⟨h1, h2⟩, h3⟩, h4⟩, h5⟩, rfl⟩
    have hr := bit_lt hp h3
    have e3 : ((r : Int) - (l : Int)) = ((r - l : Nat) : Int) := by omega
    rw [e3] at h4
    have e1 := (lo_le (d := ((r - l : Nat) : Int)) hV hO).2 ⟨by omega, h4.1⟩
    have e2 := (le_hi (d := ((r - l : Nat) : Int)) hV hO).2 ⟨by omega, h4.2⟩
    refine ⟨r - l, ⟨by omega, by omega⟩, l, ⟨by omega, h2, by rw [show r - l + l = r by omega]; exact h3⟩, ?_⟩
    unfold cand
    rw [show l + (r - l) = r by omega, if_pos h5]
/-- A pair is not worse than another. -/
abbrev bef (p : Nat) (c x : Nat × Nat) : Bool := befV (between p c.1 c.2) c.1 c.2 (between p x.1 x.2) x.1 x.2
theorem better_iff (p : Nat) (c x : Nat × Nat) (hc : c.1 < c.2) (hx : x.1 < x.2) (hl : x.1 ≤ c.1) : better p c x = bef p c x := by
  unfold better bef befV
  rw [Bool.eq_iff_iff]
  simp only [Bool.or_eq_true, Bool.and_eq_true, decide_eq_true_eq]
  omega
theorem bef_trans {p : Nat} {a c x : Nat × Nat} (h1 : bef p c x = true) (h2 : bef p a x = false) : bef p a c = false := by
  unfold bef befV at *
  simp only [decide_eq_true_eq, decide_eq_false_iff_not] at *
  omega
theorem bef_antisymm {p : Nat} {a c : Nat × Nat} (h1 : bef p c a = false) (h2 : bef p a c = false) : a = c := by
  unfold bef befV at *
  simp only [decide_eq_false_iff_not] at *
  have e1 : a.1 = c.1 := by omega
  have e2 : a.2 = c.2 := by omega
  exact Prod.ext e1 e2
/-- The best of a list's members that take a scene. -/
def BestOf (b : BarD) (p : Nat) (s : Scn) (L : List (Nat × Nat)) : Option (Nat × Nat) → Prop
  | none => ∀ c ∈ L, byB b p s c.1 c.2 = false
  | some x => x ∈ L ∧ byB b p s x.1 x.2 = true ∧ ∀ c ∈ L, byB b p s c.1 c.2 = true → bef p c x = false
theorem byB_lt {b : BarD} {p : Nat} {s : Scn} {l r : Nat} (h : byB b p s l r = true) : l < r := by
  unfold byB at h; simp only [Bool.and_eq_true, decide_eq_true_eq] at h; exact h.1.1.1.1
theorem bestOf_fold (b : BarD) (p : Nat) (s : Scn) : ∀ (L D : List (Nat × Nat)) (o : Option (Nat × Nat)), BestOf b p s D o → (∀ x ∈ D, ∀ c ∈ L, x.1 ≤ c.1) → L.Pairwise (fun x c => x.1 ≤ c.1) → BestOf b p s (D ++ L) (L.foldl (upd b p s) o)
  | [], D, o, h, _, _ => by simpa using h
  | c :: L, D, o, h, hD, hL => by
    rw [List.pairwise_cons] at hL
    have e : D ++ c :: L = (D ++ [c]) ++ L := by simp
    rw [e, List.foldl_cons]
    refine bestOf_fold b p s L (D ++ [c]) _ ?_ ?_ hL.2
    · unfold upd
      by_cases hb : byB b p s c.1 c.2 = true
      · rw [if_pos hb]
        cases o with
        | none => exact ⟨by simp, hb, fun y hy hby => by
            rcases List.mem_append.1 hy with hy | hy
            · rw [h y hy] at hby; cases hby
            · simp at hy; subst hy; exact befV_same _ _ _⟩
        | some x =>
          obtain ⟨hx1, hx2, hx3⟩ := h
          have hbt := better_iff p c x (byB_lt hb) (byB_lt hx2) (hD x hx1 c (by simp))
          simp only
          rw [hbt]
          by_cases hc : bef p c x = true
          · rw [if_pos hc]
            exact ⟨by simp, hb, fun y hy hby => by
              rcases List.mem_append.1 hy with hy | hy
              · exact bef_trans hc (hx3 y hy hby)
              · simp at hy; subst hy; exact befV_same _ _ _⟩
          · rw [if_neg hc]
            exact ⟨by simp [hx1], hx2, fun y hy hby => by
              rcases List.mem_append.1 hy with hy | hy
              · exact hx3 y hy hby
              · simp at hy; subst hy; simpa using hc⟩
      · rw [if_neg hb]
        cases o with
        | none => intro y hy; rcases List.mem_append.1 hy with hy | hy
                  · exact h y hy
                  · simp at hy; subst hy; simpa using hb
        | some x =>
          obtain ⟨hx1, hx2, hx3⟩ := h
          exact ⟨by simp [hx1], hx2, fun y hy hby => by
              rcases List.mem_append.1 hy with hy | hy
              · exact hx3 y hy hby
              · simp at hy; subst hy; exact absurd hby hb⟩
    · intro x hx y hy
      rcases List.mem_append.1 hx with hx | hx
      · exact hD x hx y (by simp [hy])
      · simp at hx; subst hx; exact hL.1 y hy
theorem pairsTo_sorted (S : Nat) : ∀ l, (pairsTo S l).Pairwise (fun x c => x.1 ≤ c.1)
  | 0 => by simp [pairsTo]
  | l + 1 => by
    rw [pairsTo_step, List.pairwise_append]
    refine ⟨pairsTo_sorted S l, ?_, fun x hx c hc => ?_⟩
    · unfold rowTo
      rw [List.pairwise_map]
      exact List.pairwise_of_forall (fun _ _ => Nat.le_refl _)
    · have h1 := mem_pairsTo hx; have h2 := mem_rowTo hc; omega
theorem mem_pairsTo' {S l : Nat} {c : Nat × Nat} (h1 : c.1 < l) (h2 : c.1 < c.2) (h3 : c.2 < S) : c ∈ pairsTo S l := by
  unfold pairsTo rowTo
  refine List.mem_flatMap.2 ⟨c.1, by simpa using h1, List.mem_map.2 ⟨c.2, by rw [List.mem_range'_1]; omega, rfl⟩⟩
theorem byB_in {b : BarD} {p : Nat} {s : Scn} {l r : Nat} (hp : p < 2 ^ b.slots.toNat) (h : byB b p s l r = true) : (l, r) ∈ pairsTo b.slots.toNat b.slots.toNat := by
  have h1 := byB_lt h
  have h2 : p.testBit r = true := by unfold byB at h; simp only [Bool.and_eq_true] at h; exact h.1.1.2
  have h3 := bit_lt hp h2
  exact mem_pairsTo' (by simp; omega) h1 h3
theorem best_of (b : BarD) (p : Nat) (s : Scn) : BestOf b p s (pairsTo b.slots.toNat b.slots.toNat) (best b p s) := by
  have := bestOf_fold b p s (pairsTo b.slots.toNat b.slots.toNat) [] none (fun c hc => by cases hc) (fun x hx => by cases hx) (pairsTo_sorted _ _)
  unfold best; simpa using this
theorem best_none {b : BarD} {p : Nat} {s : Scn} (hp : p < 2 ^ b.slots.toNat) : best b p s = none ↔ ∀ l r, byB b p s l r = false := by
  have h := best_of b p s
  constructor
  · intro e l r
    rw [e] at h
    cases hb : byB b p s l r
    · rfl
    · have := h (l, r) (byB_in hp hb); rw [← hb]; exact this
  · intro hn
    cases e : best b p s with
    | none => rfl
    | some x => rw [e] at h; have := h.2.1; rw [hn] at this; cases this
theorem best_some {b : BarD} {p : Nat} {s : Scn} {x : Nat × Nat} (hp : p < 2 ^ b.slots.toNat) : best b p s = some x ↔ byB b p s x.1 x.2 = true ∧ ∀ l r, byB b p s l r = true → bef p (l, r) x = false := by
  have h := best_of b p s
  constructor
  · intro e
    rw [e] at h
    exact ⟨h.2.1, fun l r hb => h.2.2 (l, r) (byB_in hp hb) hb⟩
  · rintro ⟨h1, h2⟩
    cases e : best b p s with
    | none => rw [(best_none hp).1 e] at h1; cases h1
    | some y =>
      rw [e] at h
      have e1 := h.2.2 x (byB_in hp h1) h1
      have e2 := h2 y.1 y.2 h.2.1
      rw [bef_antisymm e2 e1]
theorem pairsP_nil {b : BarD} {p : Nat} {s : Scn} (hV : Valid b) (hO : OkS s) (hp : p < 2 ^ b.slots.toNat) : pairsP b p s = [] ↔ best b p s = none := by
  rw [best_none hp, List.eq_nil_iff_forall_not_mem]
  constructor
  · intro h l r
    cases hb : byB b p s l r
    · rfl
    · exact absurd ((mem_pairsP hV hO hp _ l r).2 ⟨hb, rfl⟩) (h _)
  · rintro h ⟨n, l, r⟩ hm
    have := ((mem_pairsP hV hO hp n l r).1 hm).1
    rw [h] at this; cases this
end Go.BarM

namespace Go.Proofs.YtccpgpnekoncoaaGreatDoor
open Go Go.Sy Go.BarM
/-- An opened bar, its scenes, the library's table, and where its memory of tries lies. -/
structure BarA (w : World) (b : BarD) (sa : Option Addr) (sc bp bm : Nat) : Prop where
  bo : BarO w b sa sc bp bm
  sn : ScAt w sa b.scenes
  gt : GTab w
  n1 : bp ≠ bm
  n2 : 1 ≠ bm
  n3 : ∀ (i : Nat) (s : Scn), b.scenes[i]? = some s → ∀ a, sa = some a → a.block ≠ bm
theorem BarA.ext {w w' : World} {b : BarD} {sa : Option Addr} {sc bp bm : Nat} {M : List Nat} (h : BarA w b sa sc bp bm) (e : Ext M w w') (hM : ∀ x ∈ M, x = bm) : BarA w' b sa sc bp bm :=
  ⟨h.bo.ext e (fun hm => h.n1 (hM _ hm)), fun i s hs => by
    obtain ⟨blk, off, c, T, fr, h1, h2, h3⟩ := h.sn i s hs
    exact ⟨blk, off, c, T, fr, h1, e.getM h2 (fun hm => h.n3 i s hs _ h1 (hM _ hm)), h3⟩, h.gt.ext e (fun hm => h.n2 (hM _ hm)), h.n1, h.n2, h.n3⟩
/-- What the memory of tries says of a plan. -/
def memF (b : BarD) : Int → Int := fun x => ((taken b x.toNat : Nat) : Int)
theorem taken_or (b : BarD) (p k : Nat) : takenTo b p k ||| 2 ^ k = takenTo b p k + 2 ^ k := by
  have h := Nat.two_pow_add_eq_or_of_lt (takenTo_lt b p k) 1
  rw [Nat.mul_one] at h
  rw [Nat.or_comm, ← h, Nat.add_comm]
theorem c37 (b : BarD) (sa : Option Addr) (sc bp bm p cm : Nat) (es : Array MapEntry) (u : World) (hV : Valid b) (hp : p < 2 ^ b.slots.toNat) (hA : BarA u b sa sc bp bm)
    (hm : u.heap[bm]? = some (.map es cm)) (hM : Memo .u64 .u64 (memF b) es) : Calls Tryz.prog 83 #[ptr bp 0, .int .u64 p] u
    (Ret fun v w' => v = .int .u64 (taken b p) ∧ ∃ es' c', Memo .u64 .u64 (memF b) es' ∧ Hp u [bm] [(bm, .map es' c')] w') := by
  refine calls_ofM Tryz.func83 rfl rfl (fun a hf => ?_)
  have hh := Hp.init1 hm
  obtain ⟨cs, hb, hcs⟩ := hA.bo
  have hn1 : bp ∉ [bm] := by simpa using hA.n1
  have c4 := hcs.c4; have c25 := hcs.c25
  have hs1 := hV.s1; have hs2 := hV.s2; have hn := hV.n
  have hpw := shl_bd hs1 hs2
  have hp16 : p < 65536 := by omega
  refine sy_seq ?_
  refine sy_ops ?_
  refine ops_alloc hf hh Tryz.ze_74 (.inl rfl) rfl ?_; clear hf hh; clear a; intro B4 a w hf hh
  refine ops_end ?_
  refine then_n ?_
  refine sy_scope ?_
  refine sy_seq ?_
  refine sy_seq ?_
  refine sy_ops ?_
  refine ops_v hf hh (yv_move rfl) (.inl rfl) rfl rfl rfl ?_; clear hf; clear a; intro a hf
  refine ops_v hf hh (yv_nilCheck rfl) (.inl rfl) rfl rfl rfl ?_; clear hf; clear a; intro a hf
  refine ops_v hf hh (yv_fieldAddr Tryz.fo_128_2 rfl) (.inl rfl) rfl rfl rfl ?_; clear hf; clear a; intro a hf
  refine ops_v hf hh (yv_load Tryz.sc_125 rfl (fun _ h => by first | exact h.at (i := 0) rfl | exact h.at (i := 1) rfl | exact h.at (i := 2) rfl | exact h.at (i := 3) rfl | exact h.at (i := 4) rfl | exact h.at (i := 5) rfl | exact h.at (i := 6) rfl | exact h.at (i := 7) rfl | exact h.at (i := 8) rfl | exact h.oldM hb hn1) (by first | rfl | assumption)) (.inl rfl) rfl rfl rfl ?_; clear hf; clear a; intro a hf
  refine ops_v hf hh (yv_move rfl) (.inl rfl) rfl rfl rfl ?_; clear hf; clear a; intro a hf
  refine ops_v hf hh (yv_cast (v' := .tuple #[.int .u64 (if memoHas es (p : Int) then ((taken b p : Nat) : Int) else 0), .bool (memoHas es (p : Int))]) (yv_lookup (F := memF b) Tryz.mt_125 Tryz.ze_74 rfl rfl (fun _ h => h.at (i := 1) rfl) hM) rfl) (.inl rfl) rfl rfl rfl ?_; clear hf; clear a; intro a hf
  refine ops_v hf hh (yv_move rfl) (.inl rfl) rfl rfl rfl ?_; clear hf; clear a; intro a hf
  refine ops_v hf hh (yv_extract rfl rfl) (.inl rfl) rfl rfl rfl ?_; clear hf; clear a; intro a hf
  refine ops_v hf hh (yv_extract rfl rfl) (.inl rfl) rfl rfl rfl ?_; clear hf; clear a; intro a hf
  refine ops_v hf hh (yv_assign rfl) (.inl rfl) rfl rfl rfl ?_; clear hf; clear a; intro a hf
  refine ops_v hf hh (yv_assign rfl) (.inl rfl) rfl rfl rfl ?_; clear hf; clear a; intro a hf
  refine ops_end ?_
  refine then_n ?_
  refine sy_seq ?_
  refine sy_ops ?_
  refine ops_v hf hh (yv_move rfl) (.inl rfl) rfl rfl rfl ?_; clear hf; clear a; intro a hf
  refine ops_end ?_
  refine then_n ?_
  refine sy_cond hf rfl (fun hg4 => ?_) (fun hg4 => ?_)
  · have hG4 := hg4; try simp only [gS] at hG4
    refine sy_seq ?_
    refine sy_ops ?_
    refine ops_v hf hh (yv_move rfl) (.inl rfl) rfl rfl rfl ?_; clear hf; clear a; intro a hf
    first | refine ops_store (i := 0) hf hh rfl rfl rfl Tryz.sz_74 rfl rfl rfl (.inl rfl) fun w hh => ?_ | refine ops_store (i := 1) hf hh rfl rfl rfl Tryz.sz_74 rfl rfl rfl (.inl rfl) fun w hh => ?_ | refine ops_store (i := 2) hf hh rfl rfl rfl Tryz.sz_74 rfl rfl rfl (.inl rfl) fun w hh => ?_ | refine ops_store (i := 3) hf hh rfl rfl rfl Tryz.sz_74 rfl rfl rfl (.inl rfl) fun w hh => ?_ | refine ops_store (i := 4) hf hh rfl rfl rfl Tryz.sz_74 rfl rfl rfl (.inl rfl) fun w hh => ?_ | refine ops_store (i := 5) hf hh rfl rfl rfl Tryz.sz_74 rfl rfl rfl (.inl rfl) fun w hh => ?_ | refine ops_store (i := 6) hf hh rfl rfl rfl Tryz.sz_74 rfl rfl rfl (.inl rfl) fun w hh => ?_ | refine ops_store (i := 7) hf hh rfl rfl rfl Tryz.sz_74 rfl rfl rfl (.inl rfl) fun w hh => ?_ | refine ops_store (i := 8) hf hh rfl rfl rfl Tryz.sz_74 rfl rfl rfl (.inl rfl) fun w hh => ?_
    refine ops_end ?_
    refine then_n ?_
    refine sy_ret ?_
    refine then_r ?_
    refine ng_r ?_
    rw [if_pos (by assumption)] at hh
    refine ret_mb (Ds := []) (H := [(B4, .cells #[.int .u64 (taken b p : Nat)] 74), (bm, .map es cm)]) hf hh fun w' hh => ?_
    exact ⟨[.int .u64 (taken b p : Nat)], ⟨⟨B4, 0, _, _, _, rfl, hh.at (i := 0) rfl, .inl ⟨Tryz.sc_74, rfl⟩⟩, True.intro⟩, rfl, es, cm, hM, hh.less (.cons _ (.refl _))⟩
  · have hG4 := hg4; try simp only [gS] at hG4
    refine sy_skip ?_
    refine then_n ?_
    refine sy_seq ?_
    refine sy_label ?_
    refine then_n ?_
    refine sy_seq ?_
    refine sy_seq ?_
    refine sy_ops ?_
    refine ops_v hf hh (yv_move rfl) (.inl rfl) rfl rfl rfl ?_; clear hf; clear a; intro a hf
    refine ops_v hf hh (yv_nilCheck rfl) (.inl rfl) rfl rfl rfl ?_; clear hf; clear a; intro a hf
    refine ops_v hf hh (yv_fieldAddr Tryz.fo_128_0 rfl) (.inl rfl) rfl rfl rfl ?_; clear hf; clear a; intro a hf
    refine ops_v hf hh (yv_fieldAddr Tryz.fo_24_4 rfl) (.inl rfl) rfl rfl rfl ?_; clear hf; clear a; intro a hf
    refine ops_v hf hh (yv_load Tryz.sc_22 rfl (fun _ h => by first | exact h.at (i := 0) rfl | exact h.at (i := 1) rfl | exact h.at (i := 2) rfl | exact h.at (i := 3) rfl | exact h.at (i := 4) rfl | exact h.at (i := 5) rfl | exact h.at (i := 6) rfl | exact h.at (i := 7) rfl | exact h.at (i := 8) rfl | exact h.oldM hb hn1) (by first | rfl | assumption)) (.inl rfl) rfl rfl rfl ?_; clear hf; clear a; intro a hf
    refine ops_v hf hh (yv_len Tryz.se_22 rfl) (.inl rfl) rfl rfl rfl ?_; clear hf; clear a; intro a hf
    refine ops_v hf hh (yv_move rfl) (.inl rfl) rfl rfl rfl ?_; clear hf; clear a; intro a hf
    refine ops_end ?_
    refine then_n ?_
    refine sy_block ?_
    refine sy_loopM (σ := Nat × List Nat) [7, 25, 26, 27, 28, 29, 30, 31, 38] (fun q => mkd (q.2)) (fun q => [(25, .int .i64 (q.1 : Nat))]) (fun q => fun w' => q.1 ≤ b.scenes.length ∧ Hp u [bm] ([(B4, .cells #[.int .u64 (takenTo b p q.1 : Nat)] 74), (bm, .map es cm)] ++ dls q.2) w') (fun q => b.scenes.length - q.1) ((0, [])) hf rfl ?_ ?_ ?_
    · repeat' (first | exact True.intro | refine And.intro rfl ?_)
    · refine ⟨Nat.zero_le _, ?_⟩
      show Hp u [bm] [(B4, .cells #[.int .u64 ((takenTo b p 0 : Nat) : Int)] 74), (bm, .map es cm)] w
      rw [takenTo_zero]; exact hh
    · rintro q a w ⟨hq1, hh⟩ hf
      refine sy_seq ?_
      refine sy_ops ?_
      refine ops_v hf hh (yv_bin rfl rfl rfl) (.inl rfl) rfl rfl rfl ?_; clear hf; clear a; intro a hf
      refine ops_end ?_
      refine then_n ?_
      refine sy_seq ?_
      refine sy_cond hf rfl (fun hg6 => ?_) (fun hg6 => ?_)
      · have hG6 := hg6; try simp only [gS] at hG6
        refine sy_skip ?_
        refine then_n ?_
        refine sy_seq ?_
        refine sy_block ?_
        refine sy_seq ?_
        obtain ⟨s, hs⟩ := scn_of (l := b.scenes) (i := q.1) (by omega)
        have hO := hV.sc s (List.mem_of_getElem? hs)
        have hst := takenTo_step b p q.1 s hs
        have hnil := pairsP_nil hV hO hp
        refine sy_ops ?_
        refine ops_v hf hh (yv_move rfl) (.inl rfl) rfl rfl rfl ?_; clear hf; clear a; intro a hf
        refine ops_alloc hf hh Tryz.ze_3 (.inl rfl) rfl ?_; clear hf hh; clear a; intro B7 a w hf hh
        first | refine ops_store (i := 0) hf hh rfl rfl rfl Tryz.sz_3 rfl rfl rfl (.inl rfl) fun w hh => ?_ | refine ops_store (i := 1) hf hh rfl rfl rfl Tryz.sz_3 rfl rfl rfl (.inl rfl) fun w hh => ?_ | refine ops_store (i := 2) hf hh rfl rfl rfl Tryz.sz_3 rfl rfl rfl (.inl rfl) fun w hh => ?_ | refine ops_store (i := 3) hf hh rfl rfl rfl Tryz.sz_3 rfl rfl rfl (.inl rfl) fun w hh => ?_ | refine ops_store (i := 4) hf hh rfl rfl rfl Tryz.sz_3 rfl rfl rfl (.inl rfl) fun w hh => ?_ | refine ops_store (i := 5) hf hh rfl rfl rfl Tryz.sz_3 rfl rfl rfl (.inl rfl) fun w hh => ?_ | refine ops_store (i := 6) hf hh rfl rfl rfl Tryz.sz_3 rfl rfl rfl (.inl rfl) fun w hh => ?_ | refine ops_store (i := 7) hf hh rfl rfl rfl Tryz.sz_3 rfl rfl rfl (.inl rfl) fun w hh => ?_ | refine ops_store (i := 8) hf hh rfl rfl rfl Tryz.sz_3 rfl rfl rfl (.inl rfl) fun w hh => ?_
        refine ops_end ?_
        refine then_n ?_
        refine sy_seq ?_
        refine sy_ops ?_
        refine ops_v hf hh (yv_move rfl) (.inl rfl) rfl rfl rfl ?_; clear hf; clear a; intro a hf
        refine ops_v hf hh (yv_move rfl) (.inl rfl) rfl rfl rfl ?_; clear hf; clear a; intro a hf
        refine ops_v hf hh (yv_load Tryz.sc_3 rfl (fun _ h => by first | exact h.at (i := 0) rfl | exact h.at (i := 1) rfl | exact h.at (i := 2) rfl | exact h.at (i := 3) rfl | exact h.at (i := 4) rfl | exact h.at (i := 5) rfl | exact h.at (i := 6) rfl | exact h.at (i := 7) rfl | exact h.at (i := 8) rfl | exact h.oldM hb hn1) (by first | rfl | assumption)) (.inl rfl) rfl rfl rfl ?_; clear hf; clear a; intro a hf
        refine ops_call hf Tryz.en_24 rfl rfl rfl (.inl rfl) rfl (c42 bp p q.1 _) ?_; clear hf; clear a; intro v a w hR hf
        obtain ⟨B1, B2, B3, rfl, hx⟩ := hR; replace hh := hh.join hx; clear hx
        refine ops_end ?_
        refine then_n ?_
        refine sy_block ?_
        refine sy_range (I := fun j H => j = 0 ∧ H = (B2, .cells #[.int .i64 ((q.1 : Nat) : Int)] 3) :: (B3, .cells #[.int .u64 p] 75) :: (B1, .cells #[ptr bp 0] 62) :: (B7, .cells #[.int .i64 ((q.1 : Nat) : Int)] 3) :: (B4, .cells #[.int .u64 (takenTo b p q.1 : Nat)] 74) :: (bm, .map es cm) :: dls q.2) (X := fun j c H => c = .exit 1 ∧ pairsP b p s ≠ [] ∧ H = (B2, .cells #[.int .i64 ((q.1 : Nat) : Int)] 3) :: (B3, .cells #[.int .u64 p] 75) :: (B1, .cells #[ptr bp 0] 62) :: (B7, .cells #[.int .i64 ((q.1 : Nat) : Int)] 3) :: (B4, .cells #[.int .u64 (takenTo b p (q.1 + 1) : Nat)] 74) :: (bm, .map es cm) :: dls q.2) hf hh Tryz.en_59 rfl (it62 b sa sc bp bm p q.1 B1 B2 B3 s hV hs hp16) rfl (by intro x hx; obtain ⟨y, _, rfl⟩ := List.mem_map.1 hx; rfl) ?_ ?_ ?_ ?_ ?_
        · exact ⟨rfl, rfl⟩
        · rintro _ _ l D o w ⟨rfl, rfl⟩ h
          have hA2 := hA.ext h.ext (by simp)
          exact ⟨h.at (i := 4) rfl, h.at (i := 2) rfl, h.at (i := 3) rfl, hA2.bo, hA2.sn, hA2.gt⟩
        · rintro j x fn D l H w a tm hx ⟨hz, rfl⟩ hh hf
          have hne : pairsP b p s ≠ [] := by intro e; rw [e] at hx; simp at hx
          obtain ⟨y, rfl⟩ : ∃ y, x = tw y := by
            obtain ⟨y, _, e⟩ := List.mem_map.1 (List.mem_of_getElem? hx)
            exact ⟨y, e.symm⟩
          refine sy_skip ?_
          refine then_n (Go.Sy.begun (i := 0) hh rfl fun w hh => ?_)
          refine sy_block ?_
          refine sy_seq ?_
          have htl := takenTo_lt b p q.1
          have hp10 : 2 ^ q.1 ≤ 2 ^ 10 := Nat.pow_le_pow_right (by omega) (by omega)
          refine sy_tail (C := Hp _ _ _) 3 Tryz.follows (by kernel_rfl) rfl rfl (hh.drawn _) ?_
          refine q_v hf (yv_load Tryz.sc_74 rfl (fun _ h => by first | exact h.at (i := 0) rfl | exact h.at (i := 1) rfl | exact h.at (i := 2) rfl | exact h.at (i := 3) rfl | exact h.at (i := 4) rfl | exact h.at (i := 5) rfl | exact h.at (i := 6) rfl | exact h.at (i := 7) rfl | exact h.at (i := 8) rfl | exact h.oldM hb hn1) (by first | rfl | assumption)) (.inl rfl) rfl rfl ?_; clear hf; clear a; intro a hf
          refine q_v hf (yv_load Tryz.sc_3 rfl (fun _ h => by first | exact h.at (i := 0) rfl | exact h.at (i := 1) rfl | exact h.at (i := 2) rfl | exact h.at (i := 3) rfl | exact h.at (i := 4) rfl | exact h.at (i := 5) rfl | exact h.at (i := 6) rfl | exact h.at (i := 7) rfl | exact h.at (i := 8) rfl | exact h.oldM hb hn1) (by first | rfl | assumption)) (.inl rfl) rfl rfl ?_; clear hf; clear a; intro a hf
          refine q_v hf (yv_cast (yv_shl1 (.inr rfl) rfl rfl (by omega) (by omega)) (intv (b := ((2 ^ q.1 : Nat) : Int)) rfl)) (.inl rfl) rfl rfl ?_; clear hf; clear a; intro a hf
          refine q_end fun w hh => ?_
          refine ops_buildSl hf hh Tryz.bl_202_2 rfl rfl (.inl rfl) rfl ?_; clear hf hh; clear a; intro B36 a w hf hh
          refine ops_call hf Tryz.en_110 rfl rfl rfl (.inl rfl) rfl (c60 (takenTo b p q.1) (2 ^ q.1) (by omega) (by omega) _ _ _ _ (hh.at (i := 0) rfl)) ?_; clear hf; clear a; intro v a w hR hf
          obtain ⟨rfl, hx⟩ := hR; replace hh := hh.more hx; clear hx
          first | refine ops_store (i := 0) hf hh rfl rfl rfl Tryz.sz_74 rfl rfl rfl (.inl rfl) fun w hh => ?_ | refine ops_store (i := 1) hf hh rfl rfl rfl Tryz.sz_74 rfl rfl rfl (.inl rfl) fun w hh => ?_ | refine ops_store (i := 2) hf hh rfl rfl rfl Tryz.sz_74 rfl rfl rfl (.inl rfl) fun w hh => ?_ | refine ops_store (i := 3) hf hh rfl rfl rfl Tryz.sz_74 rfl rfl rfl (.inl rfl) fun w hh => ?_ | refine ops_store (i := 4) hf hh rfl rfl rfl Tryz.sz_74 rfl rfl rfl (.inl rfl) fun w hh => ?_ | refine ops_store (i := 5) hf hh rfl rfl rfl Tryz.sz_74 rfl rfl rfl (.inl rfl) fun w hh => ?_ | refine ops_store (i := 6) hf hh rfl rfl rfl Tryz.sz_74 rfl rfl rfl (.inl rfl) fun w hh => ?_ | refine ops_store (i := 7) hf hh rfl rfl rfl Tryz.sz_74 rfl rfl rfl (.inl rfl) fun w hh => ?_ | refine ops_store (i := 8) hf hh rfl rfl rfl Tryz.sz_74 rfl rfl rfl (.inl rfl) fun w hh => ?_
          refine ops_end ?_
          refine then_n ?_
          refine sy_exit ?_
          refine blk_x rfl ?_
          have hu : takenTo b p q.1 ||| 2 ^ q.1 = takenTo b p (q.1 + 1) := by
            rw [taken_or, hst, if_pos]
            cases hbb : best b p s with
            | none => exact absurd (hnil.2 hbb) hne
            | some x => rfl
          rw [hu] at hh
          exact ⟨_, ⟨rfl, hne, rfl⟩, (hh.less (.cons _ (List.Sublist.refl _)))⟩
        · rintro D H a w ⟨hz, rfl⟩ hf hh
          have hz' : pairsP b p s = [] := by simpa using hz
          have hu : takenTo b p q.1 = takenTo b p (q.1 + 1) := by rw [hst, if_neg]; rw [hnil.1 hz']; simp
          rw [hu] at hh
          refine blk_n ?_
          refine blk_n ?_
          refine then_n ?_
          refine sy_ops ?_
          first | refine ops_v hf hh (yv_add rfl rfl (by omega) (by omega)) (.inl rfl) rfl rfl rfl ?_; clear hf; clear a; intro a hf | refine ops_v hf hh (yv_bin rfl rfl rfl) (.inl rfl) rfl rfl rfl ?_; clear hf; clear a; intro a hf
          refine ops_v hf hh (yv_move rfl) (.inl rfl) rfl rfl rfl ?_; clear hf; clear a; intro a hf
          refine ops_end ?_
          refine then_n ?_
          first
            | exact ⟨(q.1 + 1, D :: q.2), ⟨⟨by show q.1 + 1 ≤ _; omega, Hp.mark (X := [(B4, .cells #[.int .u64 (takenTo b p (q.1 + 1) : Nat)] 74), (bm, .map es cm)]) (hh.less (.cons_cons _ (.cons _ (.cons _ (.cons _ (.cons _ (.refl _)))))))⟩, hf.head ⟨rfl, True.intro⟩ (Keep.cons rfl (Keep.cons rfl (Keep.cons rfl (Keep.cons rfl (Keep.cons rfl (Keep.cons rfl (Keep.cons rfl (Keep.cons rfl (Keep.cons rfl (Keep.app rfl (Keep.rm rfl Keep.base)))))))))))⟩, by show b.scenes.length - (q.1 + 1) < _; omega⟩
        · rintro j c D H a w hX hf hh
          obtain ⟨rfl, hne, rfl⟩ := hX
          refine sy_exit ?_
          refine blk_x rfl ?_
          refine blk_e ?_
          refine then_n ?_
          refine sy_ops ?_
          first | refine ops_v hf hh (yv_add rfl rfl (by omega) (by omega)) (.inl rfl) rfl rfl rfl ?_; clear hf; clear a; intro a hf | refine ops_v hf hh (yv_bin rfl rfl rfl) (.inl rfl) rfl rfl rfl ?_; clear hf; clear a; intro a hf
          refine ops_v hf hh (yv_move rfl) (.inl rfl) rfl rfl rfl ?_; clear hf; clear a; intro a hf
          refine ops_end ?_
          refine then_n ?_
          first
            | exact ⟨(q.1 + 1, D :: q.2), ⟨⟨by show q.1 + 1 ≤ _; omega, Hp.mark (X := [(B4, .cells #[.int .u64 (takenTo b p (q.1 + 1) : Nat)] 74), (bm, .map es cm)]) (hh.less (.cons_cons _ (.cons _ (.cons _ (.cons _ (.cons _ (.refl _)))))))⟩, hf.head ⟨rfl, True.intro⟩ (Keep.cons rfl (Keep.cons rfl (Keep.cons rfl (Keep.cons rfl (Keep.cons rfl (Keep.cons rfl (Keep.cons rfl (Keep.cons rfl (Keep.cons rfl (Keep.app rfl (Keep.rm rfl Keep.base)))))))))))⟩, by show b.scenes.length - (q.1 + 1) < _; omega⟩
      · have hG6 := hg6; try simp only [gS] at hG6
        refine sy_exit ?_
        refine then_e ?_
        refine then_e ?_
        refine blk_e ?_
        refine then_n ?_
        refine sy_seq ?_
        have hkk : q.1 = b.scenes.length := by omega
        have ht : takenTo b p q.1 = taken b p := by rw [hkk]; unfold taken; rfl
        rw [ht] at hh
        refine sy_tail (C := Hp _ _ _) 6 Tryz.follows (by kernel_rfl) rfl rfl (hh.drawn _) ?_
        refine q_v hf (yv_move rfl) (.inl rfl) rfl rfl ?_; clear hf; clear a; intro a hf
        refine q_v hf (yv_nilCheck rfl) (.inl rfl) rfl rfl ?_; clear hf; clear a; intro a hf
        refine q_v hf (yv_fieldAddr Tryz.fo_128_2 rfl) (.inl rfl) rfl rfl ?_; clear hf; clear a; intro a hf
        refine q_v hf (yv_load Tryz.sc_125 rfl (fun _ h => by first | exact h.at (i := 0) rfl | exact h.at (i := 1) rfl | exact h.at (i := 2) rfl | exact h.at (i := 3) rfl | exact h.at (i := 4) rfl | exact h.at (i := 5) rfl | exact h.at (i := 6) rfl | exact h.at (i := 7) rfl | exact h.at (i := 8) rfl | exact h.oldM hb hn1) (by first | rfl | assumption)) (.inl rfl) rfl rfl ?_; clear hf; clear a; intro a hf
        refine q_v hf (yv_move rfl) (.inl rfl) rfl rfl ?_; clear hf; clear a; intro a hf
        refine q_v hf (yv_load Tryz.sc_74 rfl (fun _ h => by first | exact h.at (i := 0) rfl | exact h.at (i := 1) rfl | exact h.at (i := 2) rfl | exact h.at (i := 3) rfl | exact h.at (i := 4) rfl | exact h.at (i := 5) rfl | exact h.at (i := 6) rfl | exact h.at (i := 7) rfl | exact h.at (i := 8) rfl | exact h.oldM hb hn1) (by first | rfl | assumption)) (.inl rfl) rfl rfl ?_; clear hf; clear a; intro a hf
        refine q_end fun w hh => ?_
        refine ops_mapUpdate (i := 1) (F := memF b) hf hh Tryz.mt_125 rfl rfl rfl rfl hM (.inl rfl) fun es2 cm2 w hM2 hh => ?_
        refine ops_end ?_
        refine then_n ?_
        refine sy_seq ?_
        refine sy_ops ?_
        refine ops_v hf hh (yv_load Tryz.sc_74 rfl (fun _ h => by first | exact h.at (i := 0) rfl | exact h.at (i := 1) rfl | exact h.at (i := 2) rfl | exact h.at (i := 3) rfl | exact h.at (i := 4) rfl | exact h.at (i := 5) rfl | exact h.at (i := 6) rfl | exact h.at (i := 7) rfl | exact h.at (i := 8) rfl | exact h.oldM hb hn1) (by first | rfl | assumption)) (.inl rfl) rfl rfl rfl ?_; clear hf; clear a; intro a hf
        first | refine ops_store (i := 0) hf hh rfl rfl rfl Tryz.sz_74 rfl rfl rfl (.inl rfl) fun w hh => ?_ | refine ops_store (i := 1) hf hh rfl rfl rfl Tryz.sz_74 rfl rfl rfl (.inl rfl) fun w hh => ?_ | refine ops_store (i := 2) hf hh rfl rfl rfl Tryz.sz_74 rfl rfl rfl (.inl rfl) fun w hh => ?_ | refine ops_store (i := 3) hf hh rfl rfl rfl Tryz.sz_74 rfl rfl rfl (.inl rfl) fun w hh => ?_ | refine ops_store (i := 4) hf hh rfl rfl rfl Tryz.sz_74 rfl rfl rfl (.inl rfl) fun w hh => ?_ | refine ops_store (i := 5) hf hh rfl rfl rfl Tryz.sz_74 rfl rfl rfl (.inl rfl) fun w hh => ?_ | refine ops_store (i := 6) hf hh rfl rfl rfl Tryz.sz_74 rfl rfl rfl (.inl rfl) fun w hh => ?_ | refine ops_store (i := 7) hf hh rfl rfl rfl Tryz.sz_74 rfl rfl rfl (.inl rfl) fun w hh => ?_ | refine ops_store (i := 8) hf hh rfl rfl rfl Tryz.sz_74 rfl rfl rfl (.inl rfl) fun w hh => ?_
        refine ops_end ?_
        refine then_n ?_
        refine sy_ret ?_
        refine ng_r ?_
        refine ret_mb (Ds := q.2) (H := [(B4, .cells #[.int .u64 (taken b p : Nat)] 74), (bm, .map es2 cm2)]) hf hh fun w' hh => ?_
        exact ⟨[.int .u64 (taken b p : Nat)], ⟨⟨B4, 0, _, _, _, rfl, hh.at (i := 0) rfl, .inl ⟨Tryz.sc_74, rfl⟩⟩, True.intro⟩, rfl, es2, cm2, hM2, hh.less (.cons _ (.refl _))⟩
end Go.Proofs.YtccpgpnekoncoaaGreatDoor

