/- Lemmas, in order: Things that are copied, and one of them changed, in memory. The document's card told; spans in spans. A pair of one lens and one base: what stands as far away as may be asked. Why no trimming helps; of two bases the narrower one is the easier one to mount. Package mount: why no trimming helps. No thing, one thing, in memory. TopSpread: one pair after the other. Plain mathematics of bars, no program in sight: what the document says of plans. The reference's small functions, walked. The reference's best pair of slots, walked. The reference's plans and bars, walked. The program's small functions, walked. More plain mathematics of bars: the program's way of looking. The program's looking at a bar, walked: small steps. The program's opening of a bar, walked.. -/
import Derived.Test.YtccpgpnekoncoaaGreatDoorQ11
import Derived.Test.YtccpgpnekoncoaaGreatDoorProg
import Derived.Shelf.Spec.TrailingZeros
namespace Go.PaiM
open Go Go.Sy
theorem thC_len (t : ThD) : (thC t).length = 9 := rfl
theorem flat_lenP : ∀ l : List ThD, (l.flatMap thC).length = l.length * 9
  | [] => by simp
  | y :: l => by rw [List.flatMap_cons, List.length_append, thC_len, flat_lenP l, List.length_cons]; omega
theorem flat_atP {l : List ThD} {i r : Nat} {t : ThD} {v : Value} (h : l[i]? = some t) (hr : (thC t)[r]? = some v) : (l.flatMap thC)[i * 9 + r]? = some v := by
  have hrl : r < 9 := by have := (List.getElem?_eq_some_iff.1 hr).1; rwa [thC_len] at this
  induction l generalizing i with
  | nil => simp at h
  | cons y l ih =>
    rw [List.flatMap_cons, List.getElem?_append, thC_len]
    match i, h with
    | 0, h => cases h; rw [if_pos (by omega), Nat.zero_mul, Nat.zero_add]; exact hr
    | i + 1, h =>
      rw [if_neg (by omega), show (i + 1) * 9 + r - 9 = i * 9 + r by omega]
      exact ih h
/-- The cells of things. -/
def ThCs (c : Array Value) (l : List ThD) : Prop := ∀ i t, l[i]? = some t → ∀ r v, (thC t)[r]? = some v → c[i * 9 + r]? = some v
theorem cs_at {w : World} {B : Nat} {T : TypeId} {fr : Nat × Nat} {c : Array Value} {l : List ThD} (hb : w.heap[B]? = some (.cells c T fr)) (h : ThCs c l) : ThAt w (some ⟨B, 0, none⟩) l := fun i t hi => by
  refine ⟨B, 0, c, T, fr, rfl, hb, ?_⟩
  have := cellsAt_of (c := c) (thC t) (0 + ((i : Nat) : Int).toNat * 9) fun r v hr => by
    rw [Int.toNat_natCast, Nat.zero_add]; exact h i t hi r v hr
  exact this
theorem cs_own {c : Array Value} {l : List ThD} (h : c.toList.take (l.length * 9) = l.flatMap thC) : ThCs c l := fun i t hi r v hr => by
  have h7 := flat_atP hi hr
  rw [← h, List.getElem?_take] at h7
  split at h7
  · rw [← Array.getElem?_toList]; exact h7
  · cases h7
end Go.PaiM

namespace Go.Proofs.YtccpgpnekoncoaaGreatDoor
open Go Go.Sy Go.PaiM
theorem c_Trim03 (B : Nat) (u : World) (hb : u.heap[B]? = some (.cells ts03 46 (0, 0))) : Calls Tryz.prog 53 #[.agg (caA ca03 (some ⟨B, 0, none⟩) 2)] u (Ret fun v w' => v = .tuple #[.agg #[.int .i64 2, .int .i64 1, .int .i64 0, .int .i64 3], .int .i64 0] ∧ Ext [] u w') := by
  have h := c_Trim ca03 (some ⟨B, 0, none⟩) 2 y03 ok03 pow03 u (th03_at hb)
  rw [bst03] at h
  exact h
theorem c_Depths03 (B : Nat) (u : World) (hb : u.heap[B]? = some (.cells ts03 46 (0, 0))) : Calls Tryz.prog 55 #[.agg (caA ca03 (some ⟨B, 0, none⟩) 2), .agg #[.int .i64 2, .int .i64 1, .int .i64 0, .int .i64 3]] u (Ret fun v w' => v = .tuple #[.agg #[.int .i64 2956, .int .i64 11700], .int .i64 0] ∧ Ext [] u w') := by
  have h := c_Depths ca03 (some ⟨B, 0, none⟩) 2 y03 ok03 pow03 e03 trm03 u (th03_at hb)
  rw [dep03] at h
  exact h
theorem c_Dist03 (B : Nat) (u : World) (hb : u.heap[B]? = some (.cells ts03 46 (0, 0))) : Calls Tryz.prog 12 #[.agg (prA ca03.pr (some ⟨B, 0, none⟩) 2), .int .i64 1] u (Ret fun v w' => v = .tuple #[.agg #[.int .i64 9591, .int .i64 10241], .int .i64 0] ∧ Ext [] u w') := by
  have h := c_Distance ca03.pr (some ⟨B, 0, none⟩) 2 (t03 1) 1 ok03.pr rfl u (th03_at hb)
  obtain ⟨e1, e2⟩ := dis_yes pow03 st03
  rw [e1, e2, dis03] at h
  exact h
set_option maxRecDepth 100000 in
set_option maxHeartbeats 4000000 in
theorem c_awake03 (u : World) : Calls Tryz.prog 19 #[] u (Ret fun v w' => v = .bool true ∧ Ext [] u w') := by
  refine calls_of Tryz.func19 rfl rfl (fun a hf => ?_)
  have hh := Hp.init u []
  refine sy_sq ?_
  refine o_v hf hh (yv_assign rfl) ?_; clear hf a; intro a hf
  refine o_end ?_
  refine sy_sq ?_
  refine o_call hf Tryz.en_54 rfl rfl rfl (c_card03 _) ?_; clear hf a; intro v a w hR hf
  obtain ⟨Ca, rfl, hx⟩ := hR; replace hh := hh.join hx; clear hx
  refine o_call hf Tryz.en_53 rfl rfl rfl (c_Trim03 Ca _ (hh.at (i := 0) rfl)) ?_; clear hf a; intro v a w hR hf
  obtain ⟨rfl, hx⟩ := hR; replace hh := hh.more hx; clear hx
  refine o_v hf hh (yv_move rfl) ?_; clear hf a; intro a hf
  refine o_v hf hh (yv_extract rfl rfl) ?_; clear hf a; intro a hf
  refine o_v hf hh (yv_extract rfl rfl) ?_; clear hf a; intro a hf
  refine o_alloc hf hh Tryz.ze_120 ?_; clear hf hh a; intro B1 a w hf hh
  refine o_store hf hh Tryz.sz_120 fun w hh => ?_
  refine o_v hf hh (yv_assign rfl) ?_; clear hf a; intro a hf
  refine o_end ?_
  refine sy_cut (σ := Nat) [3, 4, 12, 13, 14, 15, 16, 17] (fun B3 => [(3, ptr B3 0), (4, .int .i64 0)]) (fun B3 => fun w' => Hp u [] [(B3, .cells #[.int .i64 2956, .int .i64 11700] 35), (B1, .cells #[.int .i64 2, .int .i64 1, .int .i64 0, .int .i64 3] 120)] w') hf ?_ ?_
  ·replace hh := hh.pick [0]
   replace hh : Hp u [] [(B1, .cells #[.int .i64 2, .int .i64 1, .int .i64 0, .int .i64 3] 120)] w := hh
   refine sy_treeC (.q 0 1 (.e2 0 (.e2 2 (.p 3 (.p 4 (.p 5 (.e1 6 (.e1 7 (.p 8 (.fin))))))) 6 (.e1 2 (.p 3 (.p 4 (.p 5 (.e1 7 (.p 8 (.fin)))))))) 6 (.e1 0 (.e1 2 (.p 3 (.p 4 (.p 5 (.e1 7 (.p 8 (.fin)))))))))) [[]] [(AtE u [] [(B1, .cells #[.int .i64 2, .int .i64 1, .int .i64 0, .int .i64 3] 120)], [])] Tryz.follows (by kernel_rfl) rfl hh (fun w hh => ?_)
   refine mc_q rfl rfl (AtE.of hh (by intro q hq; rw [List.mem_singleton.1 hq]; simp)) hf (y_lds Tryz.ag_120 rfl) (.inl rfl) rfl rfl ?_; clear hf a; intro a hf
   refine ⟨?_, ?_⟩
   ·refine mc_e rfl fun Q1 => ?_
    refine o_call hf Tryz.en_54 rfl rfl rfl (c_card03 _) ?_; clear hf a; intro v a w hR hf
    obtain ⟨Cb, rfl, hx⟩ := hR; replace hh := hh.join hx; clear hx
    refine ops_end ?_
    refine then_n ⟨⟨fun _ _ => (AtE.of hh (by intro q hq; rw [List.mem_singleton.1 hq]; simp)), trivial⟩, ?_⟩
    refine ⟨?_, ?_⟩
    ·refine mc_e rfl fun Q1 => ?_
     refine o_call hf Tryz.en_55 rfl rfl rfl (c_Depths03 Cb _ (hh.get (Cb, .cells ts03 46) (by simp))) ?_; clear hf a; intro v a w hR hf
     obtain ⟨rfl, hx⟩ := hR; replace hh := hh.more hx; clear hx
     refine ops_end ?_
     refine then_n ⟨⟨fun _ _ => (AtE.of hh (by intro q hq; rw [List.mem_singleton.1 hq]; simp)), trivial⟩, ?_⟩
     refine mc_p rfl   hf (yv_move rfl) (.inl rfl) rfl rfl ?_; clear hf a; intro a hf
     refine mc_p rfl   hf (yv_extract rfl rfl) (.inl rfl) rfl rfl ?_; clear hf a; intro a hf
     refine mc_p rfl   hf (yv_extract rfl rfl) (.inl rfl) rfl rfl ?_; clear hf a; intro a hf
     refine mc_e rfl fun Q1 => ?_
     refine o_alloc hf hh Tryz.ze_35 ?_; clear hf hh a; intro B3 a w hf hh
     refine ops_end ?_
     refine then_n ⟨⟨fun _ _ => (AtE.of hh (by intro q hq; rw [List.mem_singleton.1 hq]; simp)), trivial⟩, ?_⟩
     refine mc_e rfl fun Q1 => ?_
     refine o_store hf hh Tryz.sz_35 fun w hh => ?_
     refine ops_end ?_
     refine then_n ⟨⟨fun _ _ => (AtE.of hh (by intro q hq; rw [List.mem_singleton.1 hq]; simp)), trivial⟩, ?_⟩
     refine mc_p rfl   hf (yv_assign rfl) (.inl rfl) rfl rfl ?_; clear hf a; intro a hf
     refine mc_end ?_
     refine then_n ?_
     first
       | exact ⟨B3, hh.pick [0, 2], hf.head ⟨rfl, rfl, True.intro⟩ (Keep.cons rfl (Keep.cons rfl (Keep.cons rfl (Keep.cons rfl (Keep.cons rfl (Keep.cons rfl (Keep.cons rfl (Keep.cons rfl (Keep.base)))))))))⟩
       | exact ⟨B3, hh.pick [1, 2], hf.head ⟨rfl, rfl, True.intro⟩ (Keep.cons rfl (Keep.cons rfl (Keep.cons rfl (Keep.cons rfl (Keep.cons rfl (Keep.cons rfl (Keep.cons rfl (Keep.cons rfl (Keep.base)))))))))⟩
    ·refine mc_e rfl fun Q1 => ?_
     refine o_alloc hf hh Tryz.ze_35 ?_; clear hf hh a; intro B3 a w hf hh
     refine ops_end ?_
     refine then_n ⟨⟨fun _ _ => (AtE.of hh (by intro q hq; rw [List.mem_singleton.1 hq]; simp)), trivial⟩, ?_⟩
     refine mc_e rfl fun Q1 => ?_
     refine o_call hf Tryz.en_55 rfl rfl rfl (c_Depths03 Cb _ (hh.get (Cb, .cells ts03 46) (by simp))) ?_; clear hf a; intro v a w hR hf
     obtain ⟨rfl, hx⟩ := hR; replace hh := hh.more hx; clear hx
     refine ops_end ?_
     refine then_n ⟨⟨fun _ _ => (AtE.of hh (by intro q hq; rw [List.mem_singleton.1 hq]; simp)), trivial⟩, ?_⟩
     refine mc_p rfl   hf (yv_move rfl) (.inl rfl) rfl rfl ?_; clear hf a; intro a hf
     refine mc_p rfl   hf (yv_extract rfl rfl) (.inl rfl) rfl rfl ?_; clear hf a; intro a hf
     refine mc_p rfl   hf (yv_extract rfl rfl) (.inl rfl) rfl rfl ?_; clear hf a; intro a hf
     refine mc_e rfl fun Q1 => ?_
     refine o_store hf hh Tryz.sz_35 fun w hh => ?_
     refine ops_end ?_
     refine then_n ⟨⟨fun _ _ => (AtE.of hh (by intro q hq; rw [List.mem_singleton.1 hq]; simp)), trivial⟩, ?_⟩
     refine mc_p rfl   hf (yv_assign rfl) (.inl rfl) rfl rfl ?_; clear hf a; intro a hf
     refine mc_end ?_
     refine then_n ?_
     first
       | exact ⟨B3, hh.pick [0, 2], hf.head ⟨rfl, rfl, True.intro⟩ (Keep.cons rfl (Keep.cons rfl (Keep.cons rfl (Keep.cons rfl (Keep.cons rfl (Keep.cons rfl (Keep.cons rfl (Keep.cons rfl (Keep.base)))))))))⟩
       | exact ⟨B3, hh.pick [1, 2], hf.head ⟨rfl, rfl, True.intro⟩ (Keep.cons rfl (Keep.cons rfl (Keep.cons rfl (Keep.cons rfl (Keep.cons rfl (Keep.cons rfl (Keep.cons rfl (Keep.cons rfl (Keep.base)))))))))⟩
   ·refine mc_e rfl fun Q1 => ?_
    refine o_alloc hf hh Tryz.ze_35 ?_; clear hf hh a; intro B3 a w hf hh
    refine ops_end ?_
    refine then_n ⟨⟨fun _ _ => (AtE.of hh (by intro q hq; rw [List.mem_singleton.1 hq]; simp)), trivial⟩, ?_⟩
    refine mc_e rfl fun Q1 => ?_
    refine o_call hf Tryz.en_54 rfl rfl rfl (c_card03 _) ?_; clear hf a; intro v a w hR hf
    obtain ⟨Cb, rfl, hx⟩ := hR; replace hh := hh.join hx; clear hx
    refine ops_end ?_
    refine then_n ⟨⟨fun _ _ => (AtE.of hh (by intro q hq; rw [List.mem_singleton.1 hq]; simp)), trivial⟩, ?_⟩
    refine mc_e rfl fun Q1 => ?_
    refine o_call hf Tryz.en_55 rfl rfl rfl (c_Depths03 Cb _ (hh.get (Cb, .cells ts03 46) (by simp))) ?_; clear hf a; intro v a w hR hf
    obtain ⟨rfl, hx⟩ := hR; replace hh := hh.more hx; clear hx
    refine ops_end ?_
    refine then_n ⟨⟨fun _ _ => (AtE.of hh (by intro q hq; rw [List.mem_singleton.1 hq]; simp)), trivial⟩, ?_⟩
    refine mc_p rfl   hf (yv_move rfl) (.inl rfl) rfl rfl ?_; clear hf a; intro a hf
    refine mc_p rfl   hf (yv_extract rfl rfl) (.inl rfl) rfl rfl ?_; clear hf a; intro a hf
    refine mc_p rfl   hf (yv_extract rfl rfl) (.inl rfl) rfl rfl ?_; clear hf a; intro a hf
    refine mc_e rfl fun Q1 => ?_
    refine o_store hf hh Tryz.sz_35 fun w hh => ?_
    refine ops_end ?_
    refine then_n ⟨⟨fun _ _ => (AtE.of hh (by intro q hq; rw [List.mem_singleton.1 hq]; simp)), trivial⟩, ?_⟩
    refine mc_p rfl   hf (yv_assign rfl) (.inl rfl) rfl rfl ?_; clear hf a; intro a hf
    refine mc_end ?_
    refine then_n ?_
    first
      | exact ⟨B3, hh.pick [0, 2], hf.head ⟨rfl, rfl, True.intro⟩ (Keep.cons rfl (Keep.cons rfl (Keep.cons rfl (Keep.cons rfl (Keep.cons rfl (Keep.cons rfl (Keep.cons rfl (Keep.cons rfl (Keep.base)))))))))⟩
      | exact ⟨B3, hh.pick [1, 2], hf.head ⟨rfl, rfl, True.intro⟩ (Keep.cons rfl (Keep.cons rfl (Keep.cons rfl (Keep.cons rfl (Keep.cons rfl (Keep.cons rfl (Keep.cons rfl (Keep.cons rfl (Keep.base)))))))))⟩
  ·rintro B3 a w hh hf
   refine sy_sq ?_
   refine o_call hf Tryz.en_54 rfl rfl rfl (c_card03 _) ?_; clear hf a; intro v a w hR hf
   obtain ⟨Cc, rfl, hx⟩ := hR; replace hh := hh.join hx; clear hx
   refine o_v hf hh (yv_cast (v' := .agg (prA ca03.pr (some ⟨Cc, 0, none⟩) 2)) (yv_fieldG Tryz.fg_51_0 rfl rfl) rfl) ?_; clear hf a; intro a hf
   refine o_call hf Tryz.en_12 rfl rfl rfl (c_Dist03 Cc _ (hh.at (i := 0) rfl)) ?_; clear hf a; intro v a w hR hf
   obtain ⟨rfl, hx⟩ := hR; replace hh := hh.more hx; clear hx
   refine o_v hf hh (yv_move rfl) ?_; clear hf a; intro a hf
   refine o_v hf hh (yv_extract rfl rfl) ?_; clear hf a; intro a hf
   refine o_v hf hh (yv_extract rfl rfl) ?_; clear hf a; intro a hf
   refine o_alloc hf hh Tryz.ze_35 ?_; clear hf hh a; intro B5 a w hf hh
   refine o_store hf hh Tryz.sz_35 fun w hh => ?_
   refine o_v hf hh (yv_assign rfl) ?_; clear hf a; intro a hf
   refine o_end ?_
   refine sy_seq ?_
   replace hh := hh.pick [0, 2, 3]
   replace hh : Hp u [] [(B5, .cells #[.int .i64 9591, .int .i64 10241] 35), (B3, .cells #[.int .i64 2956, .int .i64 11700] 35), (B1, .cells #[.int .i64 2, .int .i64 1, .int .i64 0, .int .i64 3] 120)] w := hh
   refine sy_quiet (C := Hp _ _ _) Tryz.follows (by kernel_rfl) (hh.drawn _) ?_
   refine oq_v hf (y_lds Tryz.ag_120 rfl) ?_; clear hf a; intro a hf
   refine oq_v hf (yv_buildS Tryz.bs_120 rfl rfl) ?_; clear hf a; intro a hf
   refine oq_v hf (yv_eqF [2, 1, 0, 3] [2, 1, 0, 3] (by kernel_rfl) rfl rfl) ?_; clear hf a; intro a hf
   refine oq_v hf (yv_move rfl) ?_; clear hf a; intro a hf
   refine oq_v hf (yv_move rfl) ?_; clear hf a; intro a hf
   refine oq_v hf (yv_bin rfl rfl rfl) ?_; clear hf a; intro a hf
   refine oq_v hf (y_pt rfl rfl) ?_; clear hf a; intro a hf
   refine oq_v hf (yv_move rfl) ?_; clear hf a; intro a hf
   refine oq_v hf (y_lds Tryz.ag_35 rfl) ?_; clear hf a; intro a hf
   refine oq_call hf Tryz.en_9 rfl rfl rfl (fun w hh => c_sp3 2956 11700 _) ?_; clear hf a; intro a hf
   refine oq_v hf (yv_eqF [2956, 11700] [2956, 11700] (by kernel_rfl) rfl rfl) ?_; clear hf a; intro a hf
   refine oq_v hf (y_pt rfl rfl) ?_; clear hf a; intro a hf
   refine oq_v hf (yv_move rfl) ?_; clear hf a; intro a hf
   refine oq_v hf (yv_move rfl) ?_; clear hf a; intro a hf
   refine oq_v hf (yv_bin rfl rfl rfl) ?_; clear hf a; intro a hf
   refine oq_v hf (y_pt rfl rfl) ?_; clear hf a; intro a hf
   refine oq_v hf (yv_move rfl) ?_; clear hf a; intro a hf
   refine oq_v hf (y_lds Tryz.ag_35 rfl) ?_; clear hf a; intro a hf
   refine oq_call hf Tryz.en_9 rfl rfl rfl (fun w hh => c_sp3 9591 10241 _) ?_; clear hf a; intro a hf
   refine oq_v hf (yv_eqF [9591, 10241] [9591, 10241] (by kernel_rfl) rfl rfl) ?_; clear hf a; intro a hf
   refine oq_v hf (y_pt rfl rfl) ?_; clear hf a; intro a hf
   refine oq_v hf (yv_move rfl) ?_; clear hf a; intro a hf
   refine oq_v hf (yv_move rfl) ?_; clear hf a; intro a hf
   refine oq_v hf (yv_bin rfl rfl rfl) ?_; clear hf a; intro a hf
   refine oq_v hf (y_pt rfl rfl) ?_; clear hf a; intro a hf
   refine oq_v hf (yv_assign rfl) ?_; clear hf a; intro a hf
   refine q_end fun w hh => ?_
   refine then_n ?_
   refine sy_ret ?_
   refine ret_r hf rfl rfl ?_
   exact ⟨rfl, hh.ext⟩
end Go.Proofs.YtccpgpnekoncoaaGreatDoor

namespace Go.PaiM
open Go Go.Sy
def lenP (f b : Int) (l : List ThD) : PrD := ⟨(f, f), (b, b), 0, 2000, 16777216, l⟩
def atT (x : Int) : ThD := ⟨(x, x), (0, 0), (0, 0), (0, 0), 0⟩
theorem len_ok {f b : Int} {l : List Int} (hf : 1 ≤ f ∧ f ≤ 50000) (hb : 1 ≤ b ∧ b ≤ 10000) (hl : l.length ≤ 12) (hx : ∀ x ∈ l, 0 ≤ x ∧ x ≤ 2000) : PrOk (lenP f b (l.map atT)) := by
  unfold lenP
  refine ⟨⟨hf.1, Int.le_refl _, hf.2⟩, ⟨hb.1, Int.le_refl _, hb.2⟩, by show (0 : Int) ≤ 0 ∧ (0 : Int) ≤ 1000; decide, by show (2000 : Int) ≤ 2000 ∧ (2000 : Int) ≤ 1073741824; decide, by show (2000 : Int) ≤ 16777216 ∧ (16777216 : Int) ≤ 1073741824; decide, by show (l.map atT).length ≤ 12; rw [List.length_map]; exact hl, fun t ht => ?_⟩
  obtain ⟨x, hx1, rfl⟩ := List.mem_map.1 ht
  have h := hx x hx1
  unfold atT
  refine ⟨?_, ?_, ?_, ?_, .inl rfl⟩ <;> dsimp only <;> omega
theorem len_pow (f b : Int) (l : List Int) : powO (lenP f b (l.map atT)) = some (f * b, f * b) := by
  have key : ∀ (p : PrD) (w : Int × Int) (l : List Int), lkF p w (l.map atT) = some w := by
    intro p w l
    induction l with
    | nil => rfl
    | cons x l ih => rw [List.map_cons, lkF, if_pos (show (atT x).far = 0 from rfl), ih]
  exact key _ _ l
theorem at_shn {x : Int} (h : 0 ≤ x ∧ x ≤ 2000) : shf (atT x) = (x, x) ∧ shn (atT x) = (x, x) := by
  have e : shf (atT x) = (x, x) := by
    unfold shf atT
    dsimp only
    rw [Prod.mk.injEq]; omega
  refine ⟨e, ?_⟩
  unfold shn
  rw [e]
  unfold nar
  dsimp only
  rw [Prod.mk.injEq]; omega
theorem div_bd {a z : Int} (hz : 0 < z) : a / z * z ≤ a ∧ a < (a / z + 1) * z := by
  have h1 := Int.ediv_mul_le a (Int.ne_of_gt hz)
  exact ⟨h1, Int.lt_ediv_add_one_mul_self a hz⟩
/-- What is so far away, with just this shift, stands still. -/
theorem len_see {f b z : Int} (l : List ThD) (hz : 2000 ≤ z ∧ z ≤ 16777216) (h0 : 0 ≤ f * b / z) (hx : f * b / z ≤ 2000) : stB (lenP f b l) (atT (f * b / z)) (f * b, f * b) = true := by
  obtain ⟨e1, e2⟩ := at_shn ⟨h0, hx⟩
  obtain ⟨d1, d2⟩ := div_bd (a := f * b) (z := z) (by omega)
  refine stB_iff.2 ⟨f * b, ⟨Int.le_refl _, Int.le_refl _⟩, ?_, ?_, ?_⟩
  · unfold okT
    rw [e2, Bool.and_eq_true]
    exact ⟨decide_eq_true (Int.le_refl _), by rfl⟩
  · rw [e2]
    unfold pws
    rw [if_pos (show (atT (f * b / z)).far = 0 from rfl)]
    show f * b / z * 2000 ≤ f * b
    exact Int.le_trans (Int.mul_le_mul_of_nonneg_left hz.1 h0) d1
  · rw [e2]
    unfold pws
    rw [if_pos (show (atT (f * b / z)).far = 0 from rfl)]
    show f * b ≤ (f * b / z + 1) * 16777216 - 1
    have := Int.mul_le_mul_of_nonneg_left hz.2 (show 0 ≤ f * b / z + 1 by omega)
    omega
/-- A wider base has greater shifts. -/
theorem base_mono {f b b' z : Int} (hf : 0 ≤ f) (hz : 0 < z) (h : b ≤ b') : f * b / z ≤ f * b' / z := Int.ediv_le_ediv hz (Int.mul_le_mul_of_nonneg_left h hf)
/-- Two shifts of a narrower base differ by no more than those of a wider one, and one. -/
theorem base_apart {f b b' y z : Int} (hf : 0 ≤ f) (hb : 0 ≤ b) (h : b ≤ b') (hy : 0 < y) (hz : 0 < z) {m : Int} (hm : 0 ≤ m) (hd : f * b' / y - f * b' / z ≤ m) : f * b / y - f * b / z ≤ m + 1 := by
  obtain ⟨k, hk⟩ : ∃ k, b' = b + k := ⟨b' - b, by omega⟩
  have hk0 : 0 ≤ k := by omega
  by_cases hyz : y ≤ z
  · obtain ⟨a1, a2⟩ := div_bd (a := f * b) hy
    obtain ⟨b1, b2⟩ := div_bd (a := f * b) hz
    obtain ⟨c1, c2⟩ := div_bd (a := f * b') hy
    obtain ⟨e1, e2⟩ := div_bd (a := f * b') hz
    obtain ⟨p, hp⟩ : ∃ p, f * b / y = p := ⟨_, rfl⟩
    obtain ⟨q, hq⟩ : ∃ q, f * b / z = q := ⟨_, rfl⟩
    obtain ⟨r, hr⟩ : ∃ r, f * b' / y = r := ⟨_, rfl⟩
    obtain ⟨s, hs⟩ : ∃ s, f * b' / z = s := ⟨_, rfl⟩
    have hg : f * b' = f * b + f * k := by rw [hk, Int.mul_add]
    have hfk : 0 ≤ f * k := Int.mul_nonneg hf hk0
    have g1 : f * k / y ≥ f * k / z := by
      have h3 := (div_bd (a := f * k) hz).1
      refine Int.le_ediv_of_mul_le hy (Int.le_trans ?_ h3)
      exact Int.mul_le_mul_of_nonneg_left hyz (Int.ediv_nonneg hfk (by omega))
    have g2 : f * b / y + f * k / y ≤ f * b' / y := by
      refine Int.le_ediv_of_mul_le hy ?_
      rw [Int.add_mul, hg]
      have := (div_bd (a := f * k) hy).1
      omega
    have g3 : f * b' / z < f * b / z + f * k / z + 2 := by
      refine Int.ediv_lt_of_lt_mul hz ?_
      rw [hg]
      have h4 := (div_bd (a := f * k) hz).2
      rw [show f * b / z + f * k / z + 2 = (f * b / z + 1) + (f * k / z + 1) by omega, Int.add_mul]
      omega
    omega
  · have h5 : f * b / y ≤ f * b / z := by
      have h6 : 0 ≤ f * b := Int.mul_nonneg hf hb
      have h3 := (div_bd (a := f * b) hy).1
      refine Int.le_ediv_of_mul_le hz (Int.le_trans ?_ h3)
      exact Int.mul_le_mul_of_nonneg_left (by omega) (Int.ediv_nonneg h6 (by omega))
    omega
end Go.PaiM

namespace Go.PaiM
open Go Go.Sy
/-- Whether two things that are seen lie too far apart. -/
def widB (c : CaD) (w : Int × Int) (m : Int) : Bool := (seeL c w).any fun i => (seeL c w).any fun k => match c.pr.th[i]?, c.pr.th[k]? with
  | some s, some t => decide (m < (shf s).2 - (shf t).1)
  | _, _ => false
def moE (c : CaD) : Int := c.eyes.1 + c.prism + c.squeeze - c.eyes.2
def moW (c : CaD) : Int := c.front + c.deep
def whyN (c : CaD) (w : Int × Int) : Nat := if (bstO c w).isSome then 0 else if widB c w (moE c) then 1 else if widB c w (moW c) then 2 else 3
theorem wid_no {c : CaD} {w : Int × Int} {m : Int} (h : ∀ i ∈ seeL c w, ∀ k ∈ seeL c w, ∀ s t, c.pr.th[i]? = some s → c.pr.th[k]? = some t → (shf s).2 - (shf t).1 ≤ m) : widB c w m = false := by
  unfold widB
  rw [List.any_eq_false]
  intro i hi
  rw [Bool.not_eq_true, List.any_eq_false]
  intro k hk
  rw [Bool.not_eq_true]
  split
  · rename_i s t hs ht
    have := h i hi k hk s t hs ht
    exact decide_eq_false (by omega)
  · rfl
theorem wid_of {c : CaD} {w : Int × Int} {m : Int} (h : widB c w m = false) {i k : Nat} (hi : i ∈ seeL c w) (hk : k ∈ seeL c w) {s t : ThD} (hs : c.pr.th[i]? = some s) (ht : c.pr.th[k]? = some t) : (shf s).2 - (shf t).1 ≤ m := by
  unfold widB at h
  rw [List.any_eq_false] at h
  have h1 := h i hi
  rw [Bool.not_eq_true, List.any_eq_false] at h1
  have h2 := h1 k hk
  rw [Bool.not_eq_true, hs, ht] at h2
  have := of_decide_eq_false h2
  omega
theorem fine_wid {c : CaD} {w : Int × Int} {e : Edg} (hf : fineB c w e = true) : widB c w (moE c) = false ∧ widB c w (moW c) = false := by
  have key : ∀ i ∈ seeL c w, ∀ s, c.pr.th[i]? = some s → c.eyes.2 - c.squeeze ≤ apaV c e - (shf s).2 ∧ apaV c e - (shf s).1 ≤ c.eyes.1 + c.prism ∧ (shf s).2 ≤ winV c e + c.front ∧ winV c e - c.deep ≤ (shf s).1 := by
    intro i hi s hs
    have h1 := of_decide_eq_true (List.all_eq_true.1 hf i hi)
    unfold hurI at h1
    rw [hs] at h1
    dsimp only at h1
    unfold hurN at h1
    split at h1
    · cases h1
    · split at h1
      · cases h1
      · split at h1
        · cases h1
        · split at h1
          · cases h1
          · omega
  refine ⟨wid_no fun i hi k hk s t hs ht => ?_, wid_no fun i hi k hk s t hs ht => ?_⟩
  · have h1 := key i hi s hs
    have h2 := key k hk t ht
    unfold moE
    omega
  · have h1 := key i hi s hs
    have h2 := key k hk t ht
    unfold moW
    omega
theorem why_wid {c : CaD} {w : Int × Int} (h1 : whyN c w ≠ 1) (h2 : whyN c w ≠ 2) : widB c w (moE c) = false ∧ widB c w (moW c) = false := by
  cases hb : bstO c w with
  | some e =>
    have h3 := List.find?_some hb
    exact fine_wid h3
  | none =>
    unfold whyN at h1 h2
    rw [hb] at h1 h2
    cases g1 : widB c w (moE c)
    · cases g2 : widB c w (moW c)
      · exact ⟨rfl, rfl⟩
      · rw [g1, g2] at h2; exact absurd rfl h2
    · rw [g1] at h1; exact absurd rfl h1
theorem wid_why {c : CaD} {w : Int × Int} (h1 : widB c w (moE c) = false) (h2 : widB c w (moW c) = false) : whyN c w ≠ 1 ∧ whyN c w ≠ 2 := by
  unfold whyN
  rw [h1, h2]
  split
  · exact ⟨by decide, by decide⟩
  · exact ⟨by decide, by decide⟩
/-- The card with the pair of one lens and one base, and so much more room. -/
def spC (c : CaD) (f b more : Int) (l : List Int) : CaD := { c with pr := lenP f b (l.map atT), squeeze := c.squeeze + more, front := c.front + more }
theorem spC_ok {c : CaD} (hc : CaOk c) {f b more : Int} {l : List Int} (hp : PrOk (lenP f b (l.map atT))) (hm : 0 ≤ more) (h1 : c.squeeze + more ≤ 10000) (h2 : c.front + more ≤ 10000) : CaOk (spC c f b more l) := by
  have := hc.sq
  have := hc.fr
  exact ⟨hc.ha, hc.st, hc.cu, hc.ey, hc.pm, by show 0 ≤ c.squeeze + more ∧ _; exact ⟨by omega, h1⟩, by show 0 ≤ c.front + more ∧ _; exact ⟨by omega, h2⟩, hc.de, hp⟩
theorem sp_see {c : CaD} {f b more y z : Int} (hy : 2000 ≤ y ∧ y ≤ 16777216) (hz : 2000 ≤ z ∧ z ≤ 16777216) (h0 : 0 ≤ f * b) (hx : f * b / y ≤ 2000) (hx2 : f * b / z ≤ 2000) : seeL (spC c f b more [f * b / y, f * b / z]) (f * b, f * b) = [0, 1] := by
  have a0 : 0 ≤ f * b / y := Int.ediv_nonneg h0 (by omega)
  have b0 : 0 ≤ f * b / z := Int.ediv_nonneg h0 (by omega)
  have e0 : seeB (spC c f b more [f * b / y, f * b / z]) (f * b, f * b) 0 = true := len_see _ hy a0 hx
  have e1 : seeB (spC c f b more [f * b / y, f * b / z]) (f * b, f * b) 1 = true := len_see _ hz b0 hx2
  have e2 : (List.range (spC c f b more [f * b / y, f * b / z]).pr.th.length) = [0, 1] := rfl
  unfold seeL
  rw [e2]
  simp [e0, e1]
theorem sp_narrow {c : CaD} {f b b' y z : Int} (hf : 0 ≤ f) (hb : 0 ≤ b) (h : b ≤ b') (hy : 2000 ≤ y ∧ y ≤ 16777216) (hz : 2000 ≤ z ∧ z ≤ 16777216) (hx : f * b' / y ≤ 2000) (hx2 : f * b' / z ≤ 2000)
    (h1 : whyN (spC c f b' 0 [f * b' / y, f * b' / z]) (f * b', f * b') ≠ 1) (h2 : whyN (spC c f b' 0 [f * b' / y, f * b' / z]) (f * b', f * b') ≠ 2) :
    whyN (spC c f b 1 [f * b / y, f * b / z]) (f * b, f * b) ≠ 1 ∧ whyN (spC c f b 1 [f * b / y, f * b / z]) (f * b, f * b) ≠ 2 := by
  have hb' : 0 ≤ b' := by omega
  have p0 : 0 ≤ f * b := Int.mul_nonneg hf hb
  have p0' : 0 ≤ f * b' := Int.mul_nonneg hf hb'
  have l1 := base_mono (z := y) hf (by omega) h
  have l2 := base_mono (z := z) hf (by omega) h
  have s' := sp_see (c := c) (more := 0) hy hz p0' hx hx2
  have s := sp_see (c := c) (more := 1) hy hz p0 (by omega) (by omega)
  obtain ⟨w1, w2⟩ := why_wid h1 h2
  have sh : ∀ x, 0 ≤ x → x ≤ 2000 → shf (atT x) = (x, x) := fun x g1 g2 => (at_shn ⟨g1, g2⟩).1
  have a0 : 0 ≤ f * b' / y := Int.ediv_nonneg p0' (by omega)
  have a1 : 0 ≤ f * b' / z := Int.ediv_nonneg p0' (by omega)
  have c0 : 0 ≤ f * b / y := Int.ediv_nonneg p0 (by omega)
  have c1 : 0 ≤ f * b / z := Int.ediv_nonneg p0 (by omega)
  have old : ∀ m, widB (spC c f b' 0 [f * b' / y, f * b' / z]) (f * b', f * b') m = false → 0 ≤ m ∧ f * b' / y - f * b' / z ≤ m ∧ f * b' / z - f * b' / y ≤ m := by
    intro m hm
    have q := fun i k hi hk s t hs ht => wid_of hm (i := i) (k := k) (by rw [s']; exact hi) (by rw [s']; exact hk) (s := s) (t := t) hs ht
    have q00 := q 0 0 (by decide) (by decide) _ _ rfl rfl
    have q01 := q 0 1 (by decide) (by decide) _ _ rfl rfl
    have q10 := q 1 0 (by decide) (by decide) _ _ rfl rfl
    rw [sh _ a0 hx] at q00
    rw [sh _ a0 hx, sh _ a1 hx2] at q01 q10
    dsimp only at q00 q01 q10
    omega
  have new : ∀ m, (0 ≤ m ∧ f * b' / y - f * b' / z ≤ m ∧ f * b' / z - f * b' / y ≤ m) → widB (spC c f b 1 [f * b / y, f * b / z]) (f * b, f * b) (m + 1) = false := by
    rintro m ⟨m0, m1, m2⟩
    have n1 := base_apart hf hb h (by omega) (by omega) m0 m1
    have n2 := base_apart hf hb h (by omega) (by omega) m0 m2
    refine wid_no fun i hi k hk s1 t1 hs ht => ?_
    rw [s] at hi hk
    have hi : i = 0 ∨ i = 1 := by simpa using hi
    have hk : k = 0 ∨ k = 1 := by simpa using hk
    rcases hi with rfl | rfl <;> rcases hk with rfl | rfl <;> cases hs <;> cases ht
    · rw [sh _ c0 (by omega)]; dsimp only; omega
    · rw [sh _ c0 (by omega), sh _ c1 (by omega)]; dsimp only; omega
    · rw [sh _ c0 (by omega), sh _ c1 (by omega)]; dsimp only; omega
    · rw [sh _ c1 (by omega)]; dsimp only; omega
  have e1 : moE (spC c f b 1 [f * b / y, f * b / z]) = moE (spC c f b' 0 [f * b' / y, f * b' / z]) + 1 := by unfold moE spC; dsimp only; omega
  have e2 : moW (spC c f b 1 [f * b / y, f * b / z]) = moW (spC c f b' 0 [f * b' / y, f * b' / z]) + 1 := by unfold moW spC; dsimp only; omega
  refine wid_why ?_ ?_
  · rw [e1]; exact new _ (old _ w1)
  · rw [e2]; exact new _ (old _ w2)
end Go.PaiM

namespace Go.Proofs.YtccpgpnekoncoaaGreatDoor
open Go Go.Sy Go.PaiM
/-- Whether two things lie too far apart. -/
def farB (c : CaD) (m : Int) (i k : Nat) : Bool := match c.pr.th[i]?, c.pr.th[k]? with
  | some s, some t => decide (m < (shf s).2 - (shf t).1)
  | _, _ => false
theorem wid_far (c : CaD) (y : Int × Int) (m : Int) : widB c y m = (seeL c y).any fun i => (seeL c y).any fun k => farB c m i k := rfl
theorem wid_hit {c : CaD} {y : Int × Int} {m : Int} {i k : Nat} (hi : i ∈ seeL c y) (hk : k ∈ seeL c y) (h : farB c m i k = true) : widB c y m = true := by
  rw [wid_far, List.any_eq_true]
  exact ⟨i, hi, List.any_eq_true.2 ⟨k, hk, h⟩⟩
theorem wid_none {c : CaD} {y : Int × Int} {m : Int} (h : ∀ i ∈ seeL c y, ∀ k ∈ seeL c y, farB c m i k = false) : widB c y m = false := by
  rw [wid_far, List.any_eq_false]
  intro i hi
  rw [Bool.not_eq_true, List.any_eq_false]
  intro k hk
  rw [h i hi k hk]; decide
theorem far_at {c : CaD} {m : Int} {i k : Nat} {s t : ThD} (hs : c.pr.th[i]? = some s) (ht : c.pr.th[k]? = some t) : farB c m i k = decide (m < (shf s).2 - (shf t).1) := by unfold farB; rw [hs, ht]
theorem ext_hp {u w : World} (e : Ext [] u w) : Hp u [] [] w := (Hp.init u []).more e
set_option maxRecDepth 100000 in
set_option maxHeartbeats 4000000 in
theorem c_wide (c : CaD) (y : Int × Int) (sa : Option Addr) (cp Bc : Nat) (m : Int) (u : World) (hC : CarAt u c y sa cp Bc) : Calls Tryz.prog 48 #[ptr Bc 0, .int .i64 m] u (Ret fun v w' => (∃ x z : Int, v = .tuple #[.int .i64 x, .int .i64 z, .bool (widB c y m)]) ∧ Ext [] u w') := by
  refine calls_of Tryz.func48 rfl rfl (fun a hf => ?_)
  have hh := Hp.init u []
  have hnt := hC.ok.pr.nt
  have hsl := see_len c y
  have hsi : (seeI c y).length = (seeL c y).length := List.length_map ..
  refine sy_sq ?_
  refine o_v hf hh (yv_assign rfl) ?_; clear hf a; intro a hf
  refine o_v hf hh (yv_assign rfl) ?_; clear hf a; intro a hf
  refine o_v hf hh (yv_assign rfl) ?_; clear hf a; intro a hf
  refine o_end ?_
  refine sy_seq ?_
  refine sy_sq ?_
  refine o_v hf hh (yv_move rfl) ?_; clear hf a; intro a hf
  refine o_call hf Tryz.en_80 rfl rfl rfl (c_things c y sa cp Bc _ (hC.ext hh.ext)) ?_; clear hf a; intro v a w hR hf
  obtain ⟨so, co, rfl, hI, hx⟩ := hR; replace hh := hh.more hx; clear hx
  have hx0 := hh.ext
  obtain ⟨w1, rfl⟩ : ∃ z, z = w := ⟨_, rfl⟩
  replace hh := Hp.init w1 []
  replace hC := hC.ext hx0
  rw [hsi] at hf
  refine o_v hf hh (yv_len Tryz.se_108 rfl) ?_; clear hf a; intro a hf
  refine o_v hf hh (yv_move rfl) ?_; clear hf a; intro a hf
  refine o_end ?_
  refine sy_block ?_
  refine sy_loopH (σ := Nat) [4, 5, 6, 8, 10, 14, 15, 16, 17, 18, 19, 20, 21, 22, 23, 24, 25, 26, 27, 28, 29, 30, 31, 32, 33, 34, 35, 36, 37, 38, 39, 40, 41, 42, 43, 44, 45] (fun i => [(14, .int .i64 (i : Nat))]) (fun i => fun w' => i ≤ (seeL c y).length ∧ (∀ n ∈ (seeL c y).take i, ∀ k ∈ seeL c y, farB c m n k = false) ∧ Hp w1 [] [] w') (fun i => (seeL c y).length - i) (0) hf ?_ ?_ ?_
  · repeat' (first | exact True.intro | refine And.intro rfl ?_)
  · exact ⟨Nat.zero_le _, (fun n h => by simp at h), hh⟩
  ·rintro i a w ⟨hi, hq, hh⟩ hf
   refine sy_sq ?_
   refine o_v hf hh (yv_bin rfl rfl rfl) ?_; clear hf a; intro a hf
   refine o_end ?_
   refine sy_seq ?_
   refine sy_cond hf rfl (fun hg3 => ?_) (fun hg3 => ?_)
   ·have hG3 := hg3; try simp only [gS] at hG3
    refine sy_skip ?_
    refine then_n ?_
    refine sy_seq ?_
    refine sy_block ?_
    refine sy_seq ?_
    obtain ⟨n1, hnn1⟩ := ex_ofP (l := seeL c y) (i := i) (by omega)
    have hmn1 := List.mem_of_getElem? hnn1
    obtain ⟨s1, htn1⟩ := ex_ofP (l := c.pr.th) (i := n1) (see_lt hmn1)
    have hsen1 : seeB c y n1 = true := (see_bit (see_lt hmn1)).1 hmn1
    have hsbn1 := shf_bd (hC.ok.pr.th s1 (List.mem_of_getElem? htn1))
    obtain ⟨blkn1, offn1, ccn1, TTn1, frn1, eso1, hbn1, hccn1⟩ := hI i ((n1 : Nat) : Int) (by unfold seeI seeTo; rw [List.getElem?_map]; show Option.map _ ((seeL c y)[i]?) = _; rw [hnn1]; rfl)
    refine sy_ops ?_
    refine o_v hf hh (y_ix Tryz.se_108 (congrArg (fun z => some (Value.slice z (seeL c y).length co)) eso1) rfl) ?_; clear hf a; intro a hf
    refine o_v hf hh (y_ld Tryz.sc_3 rfl) ?_; clear hf a; intro a hf
    refine o_v hf hh (yv_assign rfl) ?_; clear hf a; intro a hf
    refine o_end ?_
    refine sy_sq ?_
    refine o_v hf hh (yv_move rfl) ?_; clear hf a; intro a hf
    refine o_call hf Tryz.en_80 rfl rfl rfl (c_things c y sa cp Bc _ (hC.ext hh.ext)) ?_; clear hf a; intro v a w hR hf
    obtain ⟨so2, co2, rfl, hI2, hx⟩ := hR; replace hh := hh.more hx; clear hx
    have hx2 := hh.ext
    obtain ⟨w2, rfl⟩ : ∃ z, z = w := ⟨_, rfl⟩
    replace hh := Hp.init w2 []
    have hC2 := hC.ext hx2
    obtain ⟨bm, es, cm, hb, hm, hS⟩ := hC2.ex
    rw [hsi] at hf
    refine o_v hf hh (yv_len Tryz.se_108 rfl) ?_; clear hf a; intro a hf
    refine o_v hf hh (yv_move rfl) ?_; clear hf a; intro a hf
    refine o_end ?_
    refine sy_block ?_
    refine sy_loopH (σ := Nat) [4, 5, 6, 10, 21, 22, 23, 24, 25, 26, 27, 28, 29, 30, 31, 32, 33, 34, 35, 36, 37, 38, 39, 40, 41, 42, 43, 44] (fun j => [(21, .int .i64 (j : Nat))]) (fun j => fun w' => j ≤ (seeL c y).length ∧ (∀ k ∈ (seeL c y).take j, farB c m n1 k = false) ∧ Hp w2 [] [] w') (fun j => (seeL c y).length - j) (0) hf ?_ ?_ ?_
    · repeat' (first | exact True.intro | refine And.intro rfl ?_)
    · exact ⟨Nat.zero_le _, (fun n h => by simp at h), hh⟩
    ·rintro j a w ⟨hj, hq2, hh⟩ hf
     refine sy_sq ?_
     refine o_v hf hh (yv_bin rfl rfl rfl) ?_; clear hf a; intro a hf
     refine o_end ?_
     refine sy_seq ?_
     refine sy_cond hf rfl (fun hg7 => ?_) (fun hg7 => ?_)
     ·have hG7 := hg7; try simp only [gS] at hG7
      refine sy_skip ?_
      refine then_n ?_
      refine sy_seq ?_
      refine sy_block ?_
      refine sy_seq ?_
      obtain ⟨n2, hnn2⟩ := ex_ofP (l := seeL c y) (i := j) (by omega)
      have hmn2 := List.mem_of_getElem? hnn2
      obtain ⟨s2, htn2⟩ := ex_ofP (l := c.pr.th) (i := n2) (see_lt hmn2)
      have hsen2 : seeB c y n2 = true := (see_bit (see_lt hmn2)).1 hmn2
      have hsbn2 := shf_bd (hC.ok.pr.th s2 (List.mem_of_getElem? htn2))
      obtain ⟨blkn2, offn2, ccn2, TTn2, frn2, eso2, hbn2, hccn2⟩ := hI2 j ((n2 : Nat) : Int) (by unfold seeI seeTo; rw [List.getElem?_map]; show Option.map _ ((seeL c y)[j]?) = _; rw [hnn2]; rfl)
      refine sy_ops ?_
      refine o_v hf hh (y_ix Tryz.se_108 (congrArg (fun z => some (Value.slice z (seeL c y).length co2)) eso2) rfl) ?_; clear hf a; intro a hf
      refine o_v hf hh (y_ld Tryz.sc_3 rfl) ?_; clear hf a; intro a hf
      refine o_v hf hh (yv_assign rfl) ?_; clear hf a; intro a hf
      refine o_end ?_
      refine sy_seq ?_
      refine sy_quiet (C := Hp _ _ _) Tryz.follows (by kernel_rfl) (hh.drawn _) ?_
      refine oq_v hf (yv_move rfl) ?_; clear hf a; intro a hf
      refine oq_v hf (yv_nilCheck rfl) ?_; clear hf a; intro a hf
      refine oq_v hf (yv_fieldAddr Tryz.fo_103_1 rfl) ?_; clear hf a; intro a hf
      refine oq_v hf (y_ld Tryz.sc_101 rfl) ?_; clear hf a; intro a hf
      refine oq_v hf (yv_move rfl) ?_; clear hf a; intro a hf
      refine oq_v hf (yv_cast (v' := spV (shf s1)) (yv_getI Tryz.mt_101 Tryz.ze_151 rfl rfl (fun w h => h.old hm) hS.mapI) (by rw [(get_see (see_lt hmn1)).1, seV_at htn1 hsen1])) ?_; clear hf a; intro a hf
      refine oq_v hf (yv_fieldS Tryz.fs_151_1 rfl rfl) ?_; clear hf a; intro a hf
      refine oq_v hf (yv_move rfl) ?_; clear hf a; intro a hf
      refine oq_v hf (yv_nilCheck rfl) ?_; clear hf a; intro a hf
      refine oq_v hf (yv_fieldAddr Tryz.fo_103_1 rfl) ?_; clear hf a; intro a hf
      refine oq_v hf (y_ld Tryz.sc_101 rfl) ?_; clear hf a; intro a hf
      refine oq_v hf (yv_move rfl) ?_; clear hf a; intro a hf
      refine oq_v hf (yv_cast (v' := spV (shf s2)) (yv_getI Tryz.mt_101 Tryz.ze_151 rfl rfl (fun w h => h.old hm) hS.mapI) (by rw [(get_see (see_lt hmn2)).1, seV_at htn2 hsen2])) ?_; clear hf a; intro a hf
      refine oq_v hf (yv_fieldS Tryz.fs_151_0 rfl rfl) ?_; clear hf a; intro a hf
      refine oq_v hf (y_sub rfl rfl) ?_; clear hf a; intro a hf
      refine oq_v hf (yv_move rfl) ?_; clear hf a; intro a hf
      refine oq_v hf (yv_bin rfl rfl rfl) ?_; clear hf a; intro a hf
      refine q_end fun w hh => ?_
      refine then_n ?_
      refine sy_cond hf rfl (fun hg12 => ?_) (fun hg12 => ?_)
      ·have hG12 := hg12; try simp only [gS] at hG12
       refine sy_seq ?_
       have hft : farB c m n1 n2 = true := by rw [far_at htn1 htn2]; exact decide_eq_true (by omega)
       refine sy_ops ?_
       refine o_v hf hh (yv_move rfl) ?_; clear hf a; intro a hf
       refine o_v hf hh (yv_move rfl) ?_; clear hf a; intro a hf
       refine o_v hf hh (yv_assign rfl) ?_; clear hf a; intro a hf
       refine o_v hf hh (yv_assign rfl) ?_; clear hf a; intro a hf
       refine o_v hf hh (yv_assign rfl) ?_; clear hf a; intro a hf
       refine o_end ?_
       refine sy_ret ?_
       refine blk_r ?_
       refine then_r ?_
       refine then_r ?_
       refine blk_r ?_
       refine blk_r ?_
       refine then_r ?_
       refine then_r ?_
       refine blk_r ?_
       refine then_r ?_
       refine ret_r hf rfl rfl ?_
       rw [wid_hit hmn1 hmn2 hft]
       exact ⟨⟨_, _, rfl⟩, (hx0.trans hx2).trans hh.ext⟩
      ·have hG12 := hg12; try simp only [gS] at hG12
       refine sy_skip ?_
       refine blk_n ?_
       refine then_n ?_
       have hff : farB c m n1 n2 = false := by rw [far_at htn1 htn2]; exact decide_eq_false (by omega)
       refine sy_ops ?_
       refine o_v hf hh (y_add rfl rfl) ?_; clear hf a; intro a hf
       refine o_v hf hh (yv_move rfl) ?_; clear hf a; intro a hf
       refine ops_end ?_
       refine then_n ?_
       exact ⟨j + 1, ⟨⟨by omega, take_allI hq2 hnn2 hff, hh⟩, (hf.head (by repeat' (first | exact True.intro | refine And.intro rfl ?_)) (Keep.cons rfl (Keep.cons rfl (Keep.cons rfl (Keep.cons rfl (Keep.cons rfl (Keep.cons rfl (Keep.cons rfl (Keep.cons rfl (Keep.cons rfl (Keep.cons rfl (Keep.cons rfl (Keep.cons rfl (Keep.cons rfl (Keep.cons rfl (Keep.cons rfl (Keep.cons rfl (Keep.cons rfl (Keep.cons rfl (Keep.cons rfl (Keep.cons rfl (Keep.cons rfl (Keep.cons rfl (Keep.cons rfl (Keep.app rfl (Keep.rm rfl Keep.base))))))))))))))))))))))))))⟩, by omega⟩
     ·have hG7 := hg7; try simp only [gS] at hG7
      refine sy_exit ?_
      refine then_e ?_
      refine then_e ?_
      refine blk_e ?_
      refine blk_n ?_
      refine then_n ?_
      refine sy_ops ?_
      refine o_v hf hh (y_add rfl rfl) ?_; clear hf a; intro a hf
      refine o_v hf hh (yv_move rfl) ?_; clear hf a; intro a hf
      refine ops_end ?_
      refine then_n ?_
      exact ⟨i + 1, ⟨⟨by omega, take_allI hq hnn1 (all_takeI hq2 (by omega)), ext_hp (hx2.trans hh.ext)⟩, (hf.head (by repeat' (first | exact True.intro | refine And.intro rfl ?_)) (Keep.cons rfl (Keep.cons rfl (Keep.cons rfl (Keep.app rfl (Keep.rm rfl (Keep.cons rfl (Keep.cons rfl (Keep.cons rfl (Keep.cons rfl (Keep.cons rfl (Keep.cons rfl (Keep.cons rfl (Keep.cons rfl (Keep.app rfl (Keep.rm rfl Keep.base))))))))))))))))⟩, by omega⟩
   ·have hG3 := hg3; try simp only [gS] at hG3
    refine sy_exit ?_
    refine then_e ?_
    refine then_e ?_
    refine blk_e ?_
    refine then_n ?_
    refine sy_sq ?_
    refine o_v hf hh (yv_assign rfl) ?_; clear hf a; intro a hf
    refine o_v hf hh (yv_assign rfl) ?_; clear hf a; intro a hf
    refine o_v hf hh (yv_assign rfl) ?_; clear hf a; intro a hf
    refine o_end ?_
    refine sy_ret ?_
    refine ret_r hf rfl rfl ?_
    rw [wid_none (all_takeI hq (by omega))]
    exact ⟨⟨_, _, rfl⟩, hx0.trans hh.ext⟩
def moN (c : CaD) (i : Nat) : Int := if i = 0 then moE c else moW c
theorem why_at1 {c : CaD} {y : Int × Int} {i : Nat} (hn : (bstO c y).isSome = false) (hi : i < 2) (hq : ∀ j, j < i → widB c y (moN c j) = false) (h : widB c y (moN c i) = true) : whyN c y = i + 1 := by
  unfold whyN
  rw [if_neg (by rw [hn]; decide)]
  rcases (show i = 0 ∨ i = 1 by omega) with rfl | rfl
  · rw [if_pos (show widB c y (moE c) = true from h)]
  · rw [if_neg (show ¬ widB c y (moE c) = true by rw [show widB c y (moE c) = false from hq 0 (by omega)]; decide), if_pos (show widB c y (moW c) = true from h)]
theorem why_no {c : CaD} {y : Int × Int} (hn : (bstO c y).isSome = false) (hq : ∀ j, j < 2 → widB c y (moN c j) = false) : whyN c y = 3 := by
  unfold whyN
  rw [if_neg (by rw [hn]; decide), if_neg (show ¬ widB c y (moE c) = true by rw [show widB c y (moE c) = false from hq 0 (by omega)]; decide), if_neg (show ¬ widB c y (moW c) = true by rw [show widB c y (moW c) = false from hq 1 (by omega)]; decide)]
theorem why_yes {c : CaD} {y : Int × Int} (hn : (bstO c y).isSome = true) : whyN c y = 0 := by unfold whyN; rw [if_pos hn]
set_option maxRecDepth 100000 in
set_option maxHeartbeats 4000000 in
theorem c_mWhy (c : CaD) (sa : Option Addr) (cp : Nat) (y : Int × Int) (hc : CaOk c) (hy : powO c.pr = some y) (u : World) (hA : ThAt u sa c.pr.th) : Calls Tryz.prog 16 #[.agg (caA c sa cp)] u (Ret fun v w' => (∃ x z : Int, v = .tuple #[.int .i64 ((whyN c y : Nat) : Int), .int .i64 x, .int .i64 z, .int .i64 (if whyN c y = 0 then 0 else 11)]) ∧ Ext [] u w') := by
  refine calls_of Tryz.func16 rfl rfl (fun a hf => ?_)
  have hh := Hp.init u []
  have hnt := hc.pr.nt
  obtain ⟨e1, e2, e3⟩ := hc.ey; obtain ⟨p1, p2⟩ := hc.pm; obtain ⟨r1, r2⟩ := hc.sq; obtain ⟨f1, f2⟩ := hc.fr; obtain ⟨d1, d2⟩ := hc.de
  refine sy_sq ?_
  refine o_box hf hh ?_; clear hf hh a; intro B1 a w hf hh
  refine o_v hf hh (yv_assign rfl) ?_; clear hf a; intro a hf
  refine o_v hf hh (yv_assign rfl) ?_; clear hf a; intro a hf
  refine o_v hf hh (yv_assign rfl) ?_; clear hf a; intro a hf
  refine o_v hf hh (yv_assign rfl) ?_; clear hf a; intro a hf
  refine o_end ?_
  refine sy_sq ?_
  refine o_v hf hh (y_lds Tryz.ag_51 rfl) ?_; clear hf a; intro a hf
  refine o_call hf Tryz.en_46 rfl rfl rfl (c_openM c sa cp y hc hy [] none 0 (fun e h => by simp at h) (by simp) _ (hA.ext hh.ext) (ed_nil _ _)) ?_; clear hf a; intro v a w hR hf
  obtain ⟨Bc, rfl, hC, hx⟩ := hR; replace hh := hh.more hx; clear hx
  have hb1 := hh.at (i := 0) rfl
  have hx0 := hh.ext
  obtain ⟨w1, rfl⟩ : ∃ z, z = w := ⟨_, rfl⟩
  replace hh := Hp.init w1 []
  refine o_v hf hh (yv_move rfl) ?_; clear hf a; intro a hf
  refine o_v hf hh (yv_extract rfl rfl) ?_; clear hf a; intro a hf
  refine o_v hf hh (yv_extract rfl rfl) ?_; clear hf a; intro a hf
  refine o_v hf hh (yv_assign rfl) ?_; clear hf a; intro a hf
  refine o_v hf hh (yv_assign rfl) ?_; clear hf a; intro a hf
  refine o_end ?_
  refine sy_seq ?_
  refine sy_sq ?_
  refine o_v hf hh (yv_move rfl) ?_; clear hf a; intro a hf
  refine o_v hf hh (yv_bin rfl rfl rfl) ?_; clear hf a; intro a hf
  refine o_end ?_
  refine c_f hf ?_
  refine sy_skip ?_
  refine then_n ?_
  refine sy_seq ?_
  refine sy_sq ?_
  refine o_v hf hh (yv_move rfl) ?_; clear hf a; intro a hf
  refine o_call hf Tryz.en_47 rfl rfl rfl (c_best c y sa cp Bc _ (hC.ext hh.ext)) ?_; clear hf a; intro v a w hR hf
  obtain ⟨rfl, hx⟩ := hR; replace hh := hh.more hx; clear hx
  refine o_v hf hh (yv_move rfl) ?_; clear hf a; intro a hf
  refine o_v hf hh (yv_extract rfl rfl) ?_; clear hf a; intro a hf
  refine o_v hf hh (yv_extract rfl rfl) ?_; clear hf a; intro a hf
  refine o_alloc hf hh Tryz.ze_105 ?_; clear hf hh a; intro B7 a w hf hh
  refine o_store hf hh Tryz.sz_105 fun w hh => ?_
  refine o_v hf hh (yv_assign rfl) ?_; clear hf a; intro a hf
  refine o_end ?_
  refine sy_sq ?_
  refine o_v hf hh (yv_move rfl) ?_; clear hf a; intro a hf
  refine o_end ?_
  refine sy_cond hf rfl (fun hg8 => ?_) (fun hg8 => ?_)
  ·have hG8 := hg8; try simp only [gS] at hG8
   refine sy_sq ?_
   refine o_v hf hh (yv_assign rfl) ?_; clear hf a; intro a hf
   refine o_v hf hh (yv_assign rfl) ?_; clear hf a; intro a hf
   refine o_v hf hh (yv_assign rfl) ?_; clear hf a; intro a hf
   refine o_v hf hh (yv_assign rfl) ?_; clear hf a; intro a hf
   refine o_end ?_
   refine sy_ret ?_
   refine then_r ?_
   refine ret_r hf rfl rfl ?_
   rw [why_yes (by assumption), if_pos rfl]
   exact ⟨⟨0, 0, rfl⟩, hx0.trans hh.ext⟩
  ·have hG8 := hg8; try simp only [gS] at hG8
   refine sy_skip ?_
   refine then_n ?_
   refine sy_seq ?_
   refine sy_sq ?_
   refine o_v hf hh (yv_fieldAddr Tryz.fo_51_4 rfl) ?_; clear hf a; intro a hf
   refine o_v hf hh (yv_fieldAddr Tryz.fo_35_0 rfl) ?_; clear hf a; intro a hf
   refine o_v hf hh (y_ld Tryz.sc_3 rfl) ?_; clear hf a; intro a hf
   refine o_v hf hh (yv_fieldAddr Tryz.fo_51_5 rfl) ?_; clear hf a; intro a hf
   refine o_v hf hh (y_ld Tryz.sc_3 rfl) ?_; clear hf a; intro a hf
   refine o_v hf hh (y_add rfl rfl) ?_; clear hf a; intro a hf
   refine o_v hf hh (yv_fieldAddr Tryz.fo_51_6 rfl) ?_; clear hf a; intro a hf
   refine o_v hf hh (y_ld Tryz.sc_3 rfl) ?_; clear hf a; intro a hf
   refine o_v hf hh (y_add rfl rfl) ?_; clear hf a; intro a hf
   refine o_v hf hh (yv_fieldAddr Tryz.fo_51_4 rfl) ?_; clear hf a; intro a hf
   refine o_v hf hh (yv_fieldAddr Tryz.fo_35_1 rfl) ?_; clear hf a; intro a hf
   refine o_v hf hh (y_ld Tryz.sc_3 rfl) ?_; clear hf a; intro a hf
   refine o_v hf hh (y_sub rfl rfl) ?_; clear hf a; intro a hf
   refine o_v hf hh (yv_fieldAddr Tryz.fo_51_7 rfl) ?_; clear hf a; intro a hf
   refine o_v hf hh (y_ld Tryz.sc_3 rfl) ?_; clear hf a; intro a hf
   refine o_v hf hh (yv_fieldAddr Tryz.fo_51_8 rfl) ?_; clear hf a; intro a hf
   refine o_v hf hh (y_ld Tryz.sc_3 rfl) ?_; clear hf a; intro a hf
   refine o_v hf hh (y_add rfl rfl) ?_; clear hf a; intro a hf
   refine ops_buildSl hf hh Tryz.bl_108_2 rfl rfl (.inl rfl) rfl ?_; clear hf hh; clear a; intro B46 a w hf hh
   refine o_v hf hh (yv_len Tryz.se_108 rfl) ?_; clear hf a; intro a hf
   refine o_v hf hh (yv_move rfl) ?_; clear hf a; intro a hf
   refine o_end ?_
   refine sy_block ?_
   refine sy_loopH (σ := Nat) [2, 3, 4, 5, 9, 10, 11, 12, 13, 48, 49, 50, 51, 52, 53, 54, 55, 56, 57, 58, 59, 60, 61, 62, 63, 64, 65] (fun i => [(48, .int .i64 (i : Nat))]) (fun i => fun w' => i ≤ 2 ∧ (∀ j, j < i → widB c y (moN c j) = false) ∧ Hp w1 [] [(B46, .cells #[.int .i64 (moE c), .int .i64 (moW c)] 3)] w') (fun i => 2 - i) (0) hf ?_ ?_ ?_
   · repeat' (first | exact True.intro | refine And.intro rfl ?_)
   · exact ⟨Nat.zero_le _, (fun j h => absurd h (Nat.not_lt_zero _)), hh.pick [0]⟩
   ·rintro i a w ⟨hi, hq, hh⟩ hf
    refine sy_seq ?_
    have hno : (bstO c y).isSome = false := by simp_all
    refine sy_ops ?_
    refine o_v hf hh (yv_bin rfl rfl rfl) ?_; clear hf a; intro a hf
    refine o_end ?_
    refine sy_seq ?_
    refine sy_cond hf rfl (fun hg10 => ?_) (fun hg10 => ?_)
    ·have hG10 := hg10; try simp only [gS] at hG10
     refine sy_skip ?_
     refine then_n ?_
     refine sy_seq ?_
     refine sy_block ?_
     refine sy_seq ?_
     have hi2 : i < 2 := by omega
     have hmo : (#[Value.int .i64 (moE c), .int .i64 (moW c)] : Array Value)[0 + ((i : Nat) : Int).toNat * 1]? = some (.int .i64 (moN c i)) := by
       match i, hi2 with
       | 0, _ => rfl
       | 1, _ => rfl
       | n + 2, h => exact absurd h (by omega)
     refine sy_ops ?_
     refine o_v hf hh (yv_move rfl) ?_; clear hf a; intro a hf
     refine o_v hf hh (y_ix Tryz.se_108 rfl rfl) ?_; clear hf a; intro a hf
     refine o_v hf hh (y_ld Tryz.sc_3 rfl) ?_; clear hf a; intro a hf
     refine o_v hf hh (yv_assign rfl) ?_; clear hf a; intro a hf
     refine o_v hf hh (yv_assign rfl) ?_; clear hf a; intro a hf
     refine o_end ?_
     refine sy_sq ?_
     refine o_v hf hh (yv_move rfl) ?_; clear hf a; intro a hf
     refine o_v hf hh (yv_move rfl) ?_; clear hf a; intro a hf
     refine o_call hf Tryz.en_48 rfl rfl rfl (c_wide c y sa cp Bc (moN c i) w (hC.ext hh.ext)) ?_; clear hf a; intro v a w hR hf
     obtain ⟨⟨x, z, rfl⟩, hx⟩ := hR; replace hh := hh.more hx; clear hx
     refine o_v hf hh (yv_move rfl) ?_; clear hf a; intro a hf
     refine o_v hf hh (yv_extract rfl rfl) ?_; clear hf a; intro a hf
     refine o_v hf hh (yv_extract rfl rfl) ?_; clear hf a; intro a hf
     refine o_v hf hh (yv_extract rfl rfl) ?_; clear hf a; intro a hf
     refine o_v hf hh (yv_assign rfl) ?_; clear hf a; intro a hf
     refine o_v hf hh (yv_assign rfl) ?_; clear hf a; intro a hf
     refine o_v hf hh (yv_assign rfl) ?_; clear hf a; intro a hf
     refine o_end ?_
     refine sy_sq ?_
     refine o_v hf hh (yv_move rfl) ?_; clear hf a; intro a hf
     refine o_end ?_
     refine sy_cond hf rfl (fun hg15 => ?_) (fun hg15 => ?_)
     ·have hG15 := hg15; try simp only [gS] at hG15
      refine sy_sq ?_
      refine o_v hf hh (yv_move rfl) ?_; clear hf a; intro a hf
      refine o_v hf hh (y_add rfl rfl) ?_; clear hf a; intro a hf
      refine o_v hf hh (yv_move rfl) ?_; clear hf a; intro a hf
      refine o_v hf hh (yv_move rfl) ?_; clear hf a; intro a hf
      refine o_v hf hh (yv_assign rfl) ?_; clear hf a; intro a hf
      refine o_v hf hh (yv_assign rfl) ?_; clear hf a; intro a hf
      refine o_v hf hh (yv_assign rfl) ?_; clear hf a; intro a hf
      refine o_v hf hh (yv_assign rfl) ?_; clear hf a; intro a hf
      refine o_end ?_
      refine sy_ret ?_
      refine blk_r ?_
      refine then_r ?_
      refine then_r ?_
      refine blk_r ?_
      refine then_r ?_
      refine ret_r hf rfl rfl ?_
      have hw : widB c y (moN c i) = true := by simp_all
      rw [why_at1 hno (by omega) hq hw, if_neg (by omega)]
      exact ⟨⟨x, z, by rw [show ((i + 1 : Nat) : Int) = 1 + ((i : Nat) : Int) by omega]; rfl⟩, hx0.trans hh.ext⟩
     ·have hG15 := hg15; try simp only [gS] at hG15
      refine sy_skip ?_
      refine blk_n ?_
      refine then_n ?_
      refine sy_ops ?_
      refine o_v hf hh (y_add rfl rfl) ?_; clear hf a; intro a hf
      refine o_v hf hh (yv_move rfl) ?_; clear hf a; intro a hf
      refine ops_end ?_
      refine then_n ?_
      exact ⟨i + 1, ⟨⟨by omega, fun j hj => by
        rcases Nat.lt_succ_iff_lt_or_eq.1 hj with h | h
        · exact hq j h
        · rw [h]; simp_all, hh⟩, (hf.head (by repeat' (first | exact True.intro | refine And.intro rfl ?_)) (Keep.cons rfl (Keep.cons rfl (Keep.cons rfl (Keep.cons rfl (Keep.cons rfl (Keep.cons rfl (Keep.cons rfl (Keep.cons rfl (Keep.cons rfl (Keep.cons rfl (Keep.cons rfl (Keep.cons rfl (Keep.cons rfl (Keep.cons rfl (Keep.cons rfl (Keep.cons rfl (Keep.cons rfl (Keep.cons rfl (Keep.cons rfl (Keep.app rfl (Keep.rm rfl Keep.base))))))))))))))))))))))⟩, by omega⟩
    ·have hG10 := hg10; try simp only [gS] at hG10
     refine sy_exit ?_
     refine then_e ?_
     refine then_e ?_
     refine blk_e ?_
     refine then_n ?_
     refine sy_sq ?_
     refine o_v hf hh (yv_assign rfl) ?_; clear hf a; intro a hf
     refine o_v hf hh (yv_assign rfl) ?_; clear hf a; intro a hf
     refine o_v hf hh (yv_assign rfl) ?_; clear hf a; intro a hf
     refine o_v hf hh (yv_assign rfl) ?_; clear hf a; intro a hf
     refine o_end ?_
     refine sy_ret ?_
     refine ret_r hf rfl rfl ?_
     obtain rfl : i = 2 := by omega
     rw [why_no hno hq, if_neg (by decide)]
     exact ⟨⟨0, 0, rfl⟩, hx0.trans hh.ext⟩
end Go.Proofs.YtccpgpnekoncoaaGreatDoor

namespace Go.PaiM
open Go Go.Sy
theorem th_nil (w : World) (sa : Option Addr) : ThAt w sa [] := fun i x h => by simp at h
end Go.PaiM

namespace Go.Proofs.YtccpgpnekoncoaaGreatDoor
open Go Go.Sy Go.PaiM
/-- The two distances, their shifts. -/
def zN (z1 z2 : Int) (i : Nat) : Int := if i = 0 then z1 else z2
def shL (y z1 z2 : Int) (i : Nat) : List Int := ([y / z1, y / z2]).take i
theorem shL_snoc (y z1 z2 : Int) {i : Nat} (hi : i < 2) : shL y z1 z2 (i + 1) = shL y z1 z2 i ++ [y / zN z1 z2 i] := by
  match i, hi with
  | 0, _ => rfl
  | 1, _ => rfl
  | n + 2, h => exact absurd h (by omega)
theorem shL_len (y z1 z2 : Int) {i : Nat} (hi : i ≤ 2) : (shL y z1 z2 i).length = i := by
  match i, hi with
  | 0, _ => rfl
  | 1, _ => rfl
  | 2, _ => rfl
  | n + 3, h => exact absurd h (by omega)
theorem own_thP {m : Nat} {l : List ThD} {X : List (Nat × Obj)} {w : World} {oa : Option Addr} {cap : Nat} (h : OwnSl 46 9 (.slice oa m cap) m (l.flatMap thC) X) (hX : ∀ q ∈ X, w.heap[q.1]? = some q.2) : ThAt w oa l := by
  have hm : m = l.length := by have := h.1; rw [flat_lenP] at this; omega
  rcases h.2 with ⟨_, h2, _⟩ | ⟨B, cap, cur, h1, h2, _, _, h5, h6⟩
  · intro i t hi
    have := (List.getElem?_eq_some_iff.1 hi).1
    omega
  · cases h1
    rw [hm] at h6
    exact cs_at (hX (B, .cells cur 46 (0, 0)) (by rw [h2]; exact .head _)) (cs_own h6)
theorem own_slP {e size m : Nat} {v : Value} {xs : List Value} {X : List (Nat × Obj)} (h : OwnSl e size v m xs X) : ∃ oa cap, v = .slice oa m cap := by
  rcases h.2 with ⟨h1, h2, _⟩ | ⟨B, cap, cur, h1, _⟩
  · exact ⟨none, 0, by rw [h1, h2]⟩
  · exact ⟨_, _, h1⟩
def thL (y z1 z2 : Int) (i : Nat) : List ThD := (shL y z1 z2 i).map atT
theorem thL_snoc (y z1 z2 : Int) {i : Nat} (hi : i < 2) : thL y z1 z2 (i + 1) = thL y z1 z2 i ++ [atT (y / zN z1 z2 i)] := by
  unfold thL
  rw [shL_snoc y z1 z2 hi, List.map_append]; rfl
theorem thL_len (y z1 z2 : Int) {i : Nat} (hi : i ≤ 2) : (thL y z1 z2 i).length = i := by
  unfold thL
  rw [List.length_map, shL_len y z1 z2 hi]
theorem shL_mem {y z1 z2 x : Int} {i : Nat} (hi : i ≤ 2) (h : x ∈ shL y z1 z2 i) : ∃ j, j < i ∧ x = y / zN z1 z2 j := by
  match i, hi with
  | 0, _ => cases h
  | 1, _ => exact ⟨0, by omega, List.mem_singleton.1 h⟩
  | 2, _ =>
    rcases List.mem_cons.1 h with h | h
    · exact ⟨0, by omega, h⟩
    · exact ⟨1, by omega, List.mem_singleton.1 h⟩
  | n + 3, h => exact absurd h (by omega)
theorem len_okN {f base z1 z2 : Int} (hf : 1 ≤ f ∧ f ≤ 50000) (hb : 1 ≤ base ∧ base ≤ 10000) (hz1 : 0 < z1) (hz2 : 0 < z2) {i : Nat} (hi : i ≤ 2) (hq : ∀ j, j < i → f * base / zN z1 z2 j ≤ 2000) : PrOk (lenP f base (thL (f * base) z1 z2 i)) := by
  refine len_ok (l := shL (f * base) z1 z2 i) hf hb (by rw [shL_len _ _ _ hi]; omega) fun x hx => ?_
  obtain ⟨j, hj, rfl⟩ := shL_mem hi hx
  refine ⟨Int.ediv_nonneg (Int.mul_nonneg (by omega) (by omega)) ?_, hq j hj⟩
  unfold zN
  split <;> omega
theorem see_three {s : Nat} {c : CaD} {y : Int × Int} (hs : SetIs s (seeI c y)) (h : seeL c y = [0, 1]) : s = 3 := by
  have e : ∀ i : Nat, ((i : Nat) : Int) ∈ seeI c y ↔ i = 0 ∨ i = 1 := fun i => by
    rw [see_mem, h]; simp
  apply Nat.eq_of_testBit_eq
  intro i
  rw [Bool.eq_iff_iff, hs.2 i, e i]
  match i with
  | 0 => decide
  | 1 => decide
  | n + 2 =>
    have : Nat.testBit 3 (n + 2) = false := Nat.testBit_lt_two_pow (Nat.lt_of_lt_of_le (by decide : 3 < 2 ^ 2) (Nat.pow_le_pow_right (by omega) (by omega)))
    rw [this]
    simp
def spI (f base z1 z2 : Int) : Bool := decide (base ≤ 10000) && decide (f * base / z1 ≤ 2000) && decide (f * base / z2 ≤ 2000)
def spW (c : CaD) (f base more z1 z2 : Int) : Nat := if spI f base z1 z2 then whyN (spC c f base more [f * base / z1, f * base / z2]) (f * base, f * base) else 0
set_option maxRecDepth 100000 in
set_option maxHeartbeats 4000000 in
theorem c_spbig (c : CaD) (sa : Option Addr) (cp : Nat) (hc : CaOk c) (base more : Int) (ln n1 n2 : Nat) (f z1 z2 : Int) (hln : ln ≤ 65535) (hn1 : n1 < 4294967296) (hn2 : n2 < 4294967296) (hf9 : 1 + ((ln : Nat) : Int) % 50000 = f) (hz1 : 2000 + ((n1 : Nat) : Int) % 16775217 = z1) (hz2 : 2000 + ((n2 : Nat) : Int) % 16775217 = z2) (hb0 : 1 ≤ base) (hm0 : 0 ≤ more) (hmq : c.squeeze + more ≤ 10000) (hmf : c.front + more ≤ 10000) (hbig : 10000 < base) (B13 B14 B15 B12 : Nat) (u : World) (h13 : u.heap[B13]? = some (.cells #[.int .u16 ((ln : Nat) : Int)] 25 (0, 0))) (h14 : u.heap[B14]? = some (.cells #[.int .u32 ((n1 : Nat) : Int)] 26 (0, 0))) (h15 : u.heap[B15]? = some (.cells #[.int .u32 ((n2 : Nat) : Int)] 26 (0, 0))) (h12 : u.heap[B12]? = some (.cells (caA c sa cp) 51 (0, 0))) : Calls Tryz.prog 14 #[.int .i64 base, .int .i64 more, ptr B13 0, ptr B14 0, ptr B15 0, ptr B12 0] u (Ret fun v w' => v = .tuple #[.int .i64 0, .bool false] ∧ Ext [] u w') := by
  refine calls_of Tryz.func14 rfl rfl (fun a hf => ?_)
  have hh := Hp.init u []
  have hfb : 1 ≤ f ∧ f ≤ 50000 := by omega
  have hzb1 : 2000 ≤ z1 ∧ z1 ≤ 16777216 := by omega
  have hzb2 : 2000 ≤ z2 ∧ z2 ≤ 16777216 := by omega
  obtain ⟨r1, r2⟩ := hc.sq; obtain ⟨t1, t2⟩ := hc.fr
  have hpb : prB (lenP f base []) = false := by
    cases h : prB (lenP f base []) with
    | false => rfl
    | true =>
      have := (prB_iff.1 h).ba.2.2
      exact absurd (show base ≤ 10000 from this) (by omega)
  refine sy_sq ?_
  refine o_v hf hh (yv_assign rfl) ?_; clear hf a; intro a hf
  refine o_v hf hh (yv_assign rfl) ?_; clear hf a; intro a hf
  refine o_end ?_
  refine sy_sq ?_
  refine o_v hf hh (y_ld Tryz.sc_25 rfl) ?_; clear hf a; intro a hf
  refine o_v hf hh (yv_convx (.inl rfl) (by kernel_rfl) Tryz.un_3 rfl (by omega) (by simp only [IntKind.top]; omega)) ?_; clear hf a; intro a hf
  refine o_v hf hh (yv_rem rfl rfl (by omega) (by omega)) ?_; clear hf a; intro a hf
  refine ops_v hf hh (yv_cast (y_add rfl rfl (by omega) (by omega)) (intv (b := f) hf9)) (.inl rfl) rfl rfl rfl ?_; clear hf a; intro a hf
  refine o_v hf hh (yv_assign rfl) ?_; clear hf a; intro a hf
  refine o_end ?_
  refine sy_sq ?_
  refine o_v hf hh (yv_move rfl) ?_; clear hf a; intro a hf
  refine o_v hf hh (yv_move rfl) ?_; clear hf a; intro a hf
  refine o_call hf Tryz.en_9 rfl rfl rfl (c_sp3 f f _) ?_; clear hf a; intro v a w hR hf
  obtain ⟨rfl, hx⟩ := hR; replace hh := hh.more hx; clear hx
  refine o_v hf hh (yv_move rfl) ?_; clear hf a; intro a hf
  refine o_v hf hh (yv_move rfl) ?_; clear hf a; intro a hf
  refine o_call hf Tryz.en_9 rfl rfl rfl (c_sp3 base base _) ?_; clear hf a; intro v a w hR hf
  obtain ⟨rfl, hx⟩ := hR; replace hh := hh.more hx; clear hx
  refine o_v hf hh (yv_cast (v' := .agg #[.int .i64 f, .int .i64 f, .int .i64 base, .int .i64 base, .int .i64 0, .int .i64 2000, .int .i64 16777216, .slice none 0 0]) (yv_buildS Tryz.bs_38 rfl rfl) rfl) ?_; clear hf a; intro a hf
  refine o_alloc hf hh Tryz.ze_38 ?_; clear hf hh a; intro B11 a w hf hh
  refine o_store hf hh Tryz.sz_38 fun w hh => ?_
  refine o_end ?_
  refine sy_seq ?_
  refine sy_seq ?_
  replace hh : Hp u [] [(B11, .cells #[.int .i64 f, .int .i64 f, .int .i64 base, .int .i64 base, .int .i64 0, .int .i64 2000, .int .i64 16777216, .slice none 0 0] 38)] w := hh
  refine sy_ops ?_
  refine o_v hf hh (y_ld Tryz.sc_26 rfl) ?_; clear hf a; intro a hf
  refine o_v hf hh (y_ld Tryz.sc_26 rfl) ?_; clear hf a; intro a hf
  refine ops_buildSl hf hh Tryz.bl_53_2 rfl rfl (.inl rfl) rfl ?_; clear hf hh; clear a; intro B36 a w hf hh
  refine o_v hf hh (yv_len Tryz.se_53 rfl) ?_; clear hf a; intro a hf
  refine o_v hf hh (yv_move rfl) ?_; clear hf a; intro a hf
  refine o_end ?_
  refine sy_block ?_
  refine sy_loopH (σ := Nat) [8, 9, 13, 14, 15, 38, 39, 40, 41, 42, 43, 44, 45, 46, 47, 48, 49, 50, 51, 52, 53, 54, 55, 56, 57, 58, 59, 60, 61, 62, 63, 64, 65, 66, 67, 68, 69, 70, 71, 72, 73, 74, 75, 76, 77, 78, 79, 80, 81] (fun i => [(38, .int .i64 (i : Nat))]) (fun i => fun w' => i = 0 ∧ Hp u [] [(B36, .cells #[.int .u32 ((n1 : Nat) : Int), .int .u32 ((n2 : Nat) : Int)] 26), (B11, .cells #[.int .i64 f, .int .i64 f, .int .i64 base, .int .i64 base, .int .i64 0, .int .i64 2000, .int .i64 16777216, .slice none 0 0] 38)] w') (fun i => 2 - i) (0) hf ?_ ?_ ?_
  · repeat' (first | exact True.intro | refine And.intro rfl ?_)
  · exact ⟨rfl, hh⟩
  ·rintro i a w ⟨hi, hh⟩ hf
   refine sy_sq ?_
   refine o_v hf hh (yv_bin rfl rfl rfl) ?_; clear hf a; intro a hf
   refine o_end ?_
   refine sy_seq ?_
   refine sy_cond hf rfl (fun hg8 => ?_) (fun hg8 => ?_)
   ·have hG8 := hg8; try simp only [gS] at hG8
    refine sy_skip ?_
    refine then_n ?_
    refine sy_seq ?_
    refine sy_block ?_
    refine sy_seq ?_
    have hi2 : i < 2 := by omega
    obtain ⟨ni, hni⟩ : ∃ ni : Nat, ni = (if i = 0 then n1 else n2) := ⟨_, rfl⟩
    have hnb : ni < 4294967296 := by rw [hni]; split <;> omega
    have hzi : 2000 + ((ni : Nat) : Int) % 16775217 = zN z1 z2 i := by
      unfold zN
      rw [hni]
      by_cases h0 : i = 0
      · rw [if_pos h0, if_pos h0]; exact hz1
      · rw [if_neg h0, if_neg h0]; exact hz2
    obtain ⟨zi, hzid⟩ : ∃ zi, zN z1 z2 i = zi := ⟨_, rfl⟩
    rw [hzid] at hzi
    have hzib : 2000 ≤ zi ∧ zi ≤ 16777216 := by omega
    have hc36 : (#[Value.int .u32 ((n1 : Nat) : Int), .int .u32 ((n2 : Nat) : Int)] : Array Value)[0 + ((i : Nat) : Int).toNat * 1]? = some (.int .u32 ((ni : Nat) : Int)) := by
      rw [hni]
      match i, hi2 with
      | 0, _ => rfl
      | 1, _ => rfl
      | n + 2, h => exact absurd h (by omega)
    refine sy_ops ?_
    refine o_v hf hh (y_ix Tryz.se_53 rfl rfl) ?_; clear hf a; intro a hf
    refine o_v hf hh (y_ld Tryz.sc_26 rfl) ?_; clear hf a; intro a hf
    refine o_v hf hh (yv_assign rfl) ?_; clear hf a; intro a hf
    refine o_end ?_
    refine sy_cut (σ := Nat) [14, 15, 42, 43, 44, 45, 46, 47, 48, 49, 50, 51, 52, 53, 54, 55, 56, 57, 58] (fun Bq => [(14, ptr Bq 0), (15, .int .i64 1)]) (fun Bq => fun w' => Hp u [] [(Bq, .cells #[.int .i64 0, .int .i64 0] 35)] w') hf ?_ ?_
    ·replace hh : Hp u [] [(B36, .cells #[.int .u32 ((n1 : Nat) : Int), .int .u32 ((n2 : Nat) : Int)] 26), (B11, .cells #[.int .i64 f, .int .i64 f, .int .i64 base, .int .i64 base, .int .i64 0, .int .i64 2000, .int .i64 16777216, .slice none 0 0] 38)] w := hh
     refine sy_treeC (.q 0 0 (.p 1 (.q 0 2 (.p 3 (.p 4 (.p 5 (.q 0 6 (.p 7 (.q 0 8 (.p 9 (.p 10 (.p 11 (.p 12 (.e2 13 (.p 14 (.p 15 (.p 16 (.e1 17 (.e1 18 (.p 19 (.fin))))))) 17 (.e1 13 (.p 14 (.p 15 (.p 16 (.e1 18 (.p 19 (.fin))))))))))))))))))))) [[]] [(AtE u [] [(B11, .cells #[.int .i64 f, .int .i64 f, .int .i64 base, .int .i64 base, .int .i64 0, .int .i64 2000, .int .i64 16777216, .slice none 0 0] 38)], [])] Tryz.follows (by kernel_rfl) rfl hh (fun w hh => ?_)
     refine mc_q rfl rfl (AtE.of hh (by intro q hq; rw [List.mem_singleton.1 hq]; simp)) hf (y_lds Tryz.ag_38 rfl) (.inl rfl) rfl rfl ?_; clear hf a; intro a hf
     refine mc_p rfl   hf (yv_fieldAddr Tryz.fo_38_3 rfl) (.inl rfl) rfl rfl ?_; clear hf a; intro a hf
     refine mc_q rfl rfl (AtE.of hh (by intro q hq; rw [List.mem_singleton.1 hq]; simp)) hf (y_ld Tryz.sc_3 rfl) (.inl rfl) rfl rfl ?_; clear hf a; intro a hf
     refine mc_p rfl   hf (yv_move rfl) (.inl rfl) rfl rfl ?_; clear hf a; intro a hf
     refine mc_p rfl   hf (yv_convx (.inl rfl) (by kernel_rfl) Tryz.un_3 rfl (by omega) (by simp only [IntKind.top]; omega)) (.inl rfl) rfl rfl ?_; clear hf a; intro a hf
     refine mc_p rfl   hf (yv_fieldAddr Tryz.fo_38_4 rfl) (.inl rfl) rfl rfl ?_; clear hf a; intro a hf
     refine mc_q rfl rfl (AtE.of hh (by intro q hq; rw [List.mem_singleton.1 hq]; simp)) hf (y_ld Tryz.sc_3 rfl) (.inl rfl) rfl rfl ?_; clear hf a; intro a hf
     refine mc_p rfl   hf (yv_fieldAddr Tryz.fo_38_3 rfl) (.inl rfl) rfl rfl ?_; clear hf a; intro a hf
     refine mc_q rfl rfl (AtE.of hh (by intro q hq; rw [List.mem_singleton.1 hq]; simp)) hf (y_ld Tryz.sc_3 rfl) (.inl rfl) rfl rfl ?_; clear hf a; intro a hf
     refine mc_p rfl   hf (y_sub rfl rfl) (.inl rfl) rfl rfl ?_; clear hf a; intro a hf
     refine mc_p rfl   hf (y_add rfl rfl) (.inl rfl) rfl rfl ?_; clear hf a; intro a hf
     refine mc_p rfl   hf (yv_rem rfl rfl (by omega) (by omega)) (.inl rfl) rfl rfl ?_; clear hf a; intro a hf
     refine mc_p rfl   hf (yv_cast (y_add rfl rfl (by omega) (by omega)) (intv (b := zi) hzi)) (.inl rfl) rfl rfl ?_; clear hf a; intro a hf
     refine ⟨?_, ?_⟩
     ·refine mc_e rfl fun Q1 => ?_
      refine o_call hf Tryz.en_10 rfl rfl rfl (c_Stands (lenP f base []) none 0 (f * base, f * base) zi (by simp [lenP]) (fun h => absurd h (by rw [hpb]; decide)) (fun h => absurd h (by rw [hpb]; decide)) _ (th_nil _ _)) ?_; clear hf a; intro v a w hR hf
      rw [hpb, if_neg (by decide)] at hR
      obtain ⟨rfl, hx⟩ := hR; replace hh := hh.more hx; clear hx
      refine ops_end ?_
      refine then_n ⟨⟨fun _ _ => (AtE.of hh (by intro q hq; rw [List.mem_singleton.1 hq]; simp)), trivial⟩, ?_⟩
      refine mc_p rfl   hf (yv_move rfl) (.inl rfl) rfl rfl ?_; clear hf a; intro a hf
      refine mc_p rfl   hf (yv_extract rfl rfl) (.inl rfl) rfl rfl ?_; clear hf a; intro a hf
      refine mc_p rfl   hf (yv_extract rfl rfl) (.inl rfl) rfl rfl ?_; clear hf a; intro a hf
      refine mc_e rfl fun Q1 => ?_
      refine o_alloc hf hh Tryz.ze_35 ?_; clear hf hh a; intro B14 a w hf hh
      refine ops_end ?_
      refine then_n ⟨⟨fun _ _ => (AtE.of hh (by intro q hq; rw [List.mem_singleton.1 hq]; simp)), trivial⟩, ?_⟩
      refine mc_e rfl fun Q1 => ?_
      refine o_store hf hh Tryz.sz_35 fun w hh => ?_
      refine ops_end ?_
      refine then_n ⟨⟨fun _ _ => (AtE.of hh (by intro q hq; rw [List.mem_singleton.1 hq]; simp)), trivial⟩, ?_⟩
      refine mc_p rfl   hf (yv_assign rfl) (.inl rfl) rfl rfl ?_; clear hf a; intro a hf
      refine mc_end ?_
      refine then_n ?_
      first
        | exact ⟨_, hh.pick [0], hf.head ⟨rfl, rfl, True.intro⟩ (Keep.cons rfl (Keep.cons rfl (Keep.cons rfl (Keep.cons rfl (Keep.cons rfl (Keep.cons rfl (Keep.cons rfl (Keep.cons rfl (Keep.cons rfl (Keep.cons rfl (Keep.cons rfl (Keep.cons rfl (Keep.cons rfl (Keep.cons rfl (Keep.cons rfl (Keep.cons rfl (Keep.cons rfl (Keep.cons rfl (Keep.cons rfl (Keep.base))))))))))))))))))))⟩
     ·refine mc_e rfl fun Q1 => ?_
      refine o_alloc hf hh Tryz.ze_35 ?_; clear hf hh a; intro B14 a w hf hh
      refine ops_end ?_
      refine then_n ⟨⟨fun _ _ => (AtE.of hh (by intro q hq; rw [List.mem_singleton.1 hq]; simp)), trivial⟩, ?_⟩
      refine mc_e rfl fun Q1 => ?_
      refine o_call hf Tryz.en_10 rfl rfl rfl (c_Stands (lenP f base []) none 0 (f * base, f * base) zi (by simp [lenP]) (fun h => absurd h (by rw [hpb]; decide)) (fun h => absurd h (by rw [hpb]; decide)) _ (th_nil _ _)) ?_; clear hf a; intro v a w hR hf
      rw [hpb, if_neg (by decide)] at hR
      obtain ⟨rfl, hx⟩ := hR; replace hh := hh.more hx; clear hx
      refine ops_end ?_
      refine then_n ⟨⟨fun _ _ => (AtE.of hh (by intro q hq; rw [List.mem_singleton.1 hq]; simp)), trivial⟩, ?_⟩
      refine mc_p rfl   hf (yv_move rfl) (.inl rfl) rfl rfl ?_; clear hf a; intro a hf
      refine mc_p rfl   hf (yv_extract rfl rfl) (.inl rfl) rfl rfl ?_; clear hf a; intro a hf
      refine mc_p rfl   hf (yv_extract rfl rfl) (.inl rfl) rfl rfl ?_; clear hf a; intro a hf
      refine mc_e rfl fun Q1 => ?_
      refine o_store hf hh Tryz.sz_35 fun w hh => ?_
      refine ops_end ?_
      refine then_n ⟨⟨fun _ _ => (AtE.of hh (by intro q hq; rw [List.mem_singleton.1 hq]; simp)), trivial⟩, ?_⟩
      refine mc_p rfl   hf (yv_assign rfl) (.inl rfl) rfl rfl ?_; clear hf a; intro a hf
      refine mc_end ?_
      refine then_n ?_
      first
        | exact ⟨_, hh.pick [0], hf.head ⟨rfl, rfl, True.intro⟩ (Keep.cons rfl (Keep.cons rfl (Keep.cons rfl (Keep.cons rfl (Keep.cons rfl (Keep.cons rfl (Keep.cons rfl (Keep.cons rfl (Keep.cons rfl (Keep.cons rfl (Keep.cons rfl (Keep.cons rfl (Keep.cons rfl (Keep.cons rfl (Keep.cons rfl (Keep.cons rfl (Keep.cons rfl (Keep.cons rfl (Keep.cons rfl (Keep.base))))))))))))))))))))⟩
    ·rintro Bq a w hh hf
     refine sy_seq ?_
     refine sy_sq ?_
     refine o_v hf hh (yv_move rfl) ?_; clear hf a; intro a hf
     refine o_v hf hh (yv_bin rfl rfl rfl) ?_; clear hf a; intro a hf
     refine o_v hf hh (yv_move rfl) ?_; clear hf a; intro a hf
     refine o_off hf ?_; clear hf a; intro a hf
     refine o_off hf ?_; clear hf a; intro a hf
     refine o_off hf ?_; clear hf a; intro a hf
     refine o_off hf ?_; clear hf a; intro a hf
     refine o_off hf ?_; clear hf a; intro a hf
     refine o_v hf hh (y_pt rfl rfl) ?_; clear hf a; intro a hf
     refine o_v hf hh (yv_move rfl) ?_; clear hf a; intro a hf
     refine o_off hf ?_; clear hf a; intro a hf
     refine o_off hf ?_; clear hf a; intro a hf
     refine o_off hf ?_; clear hf a; intro a hf
     refine o_v hf hh (y_pt rfl rfl) ?_; clear hf a; intro a hf
     refine o_end ?_
     refine c_t hf ?_
     refine sy_sq ?_
     refine o_v hf hh (yv_assign rfl) ?_; clear hf a; intro a hf
     refine o_v hf hh (yv_assign rfl) ?_; clear hf a; intro a hf
     refine o_end ?_
     refine sy_ret ?_
     refine then_r ?_
     refine blk_r ?_
     refine then_r ?_
     refine then_r ?_
     refine blk_r ?_
     refine then_r ?_
     refine ret_r hf rfl rfl ?_
     first
       | exact ⟨rfl, hh.ext⟩
       | (exfalso; omega)
   ·have hG8 := hg8; try simp only [gS] at hG8
    refine sy_exit ?_
    refine then_e ?_
    refine then_e ?_
    refine blk_e ?_
    refine then_n ?_
    exfalso
    omega
theorem sp_no {c : CaD} {f base more z1 z2 : Int} {i : Nat} (hi : i < 2) (h : 2000 < f * base / zN z1 z2 i) : spI f base z1 z2 = false ∧ spW c f base more z1 z2 = 0 := by
  have e : spI f base z1 z2 = false := by
    unfold spI
    match i, hi with
    | 0, _ => rw [decide_eq_false (show ¬ f * base / z1 ≤ 2000 from by have h9 : 2000 < f * base / z1 := h; omega), Bool.and_false, Bool.false_and]
    | 1, _ => rw [decide_eq_false (show ¬ f * base / z2 ≤ 2000 from by have h9 : 2000 < f * base / z2 := h; omega), Bool.and_false]
    | n + 2, h => exact absurd h (by omega)
  refine ⟨e, ?_⟩
  unfold spW
  rw [e]; rfl
theorem sp_yes {c : CaD} {f base more z1 z2 : Int} (hb : base ≤ 10000) (h1 : f * base / z1 ≤ 2000) (h2 : f * base / z2 ≤ 2000) : spI f base z1 z2 = true ∧ spW c f base more z1 z2 = whyN (spC c f base more [f * base / z1, f * base / z2]) (f * base, f * base) := by
  have e : spI f base z1 z2 = true := by
    unfold spI
    rw [decide_eq_true hb, decide_eq_true h1, decide_eq_true h2]; rfl
  refine ⟨e, ?_⟩
  unfold spW
  rw [e]; rfl
theorem sp_big {c : CaD} {f base more z1 z2 : Int} (hb : 10000 < base) : spI f base z1 z2 = false ∧ spW c f base more z1 z2 = 0 := by
  have e : spI f base z1 z2 = false := by
    unfold spI
    rw [decide_eq_false (show ¬ base ≤ 10000 by omega), Bool.false_and, Bool.false_and]
  refine ⟨e, ?_⟩
  unfold spW
  rw [e]; rfl
set_option maxRecDepth 100000 in
set_option maxHeartbeats 4000000 in
theorem c_spok (c : CaD) (sa : Option Addr) (cp : Nat) (hc : CaOk c) (base more : Int) (ln n1 n2 : Nat) (f z1 z2 : Int) (hln : ln ≤ 65535) (hn1 : n1 < 4294967296) (hn2 : n2 < 4294967296) (hf9 : 1 + ((ln : Nat) : Int) % 50000 = f) (hz1 : 2000 + ((n1 : Nat) : Int) % 16775217 = z1) (hz2 : 2000 + ((n2 : Nat) : Int) % 16775217 = z2) (hb0 : 1 ≤ base) (hm0 : 0 ≤ more) (hmq : c.squeeze + more ≤ 10000) (hmf : c.front + more ≤ 10000) (hbw : base ≤ 10000) (B13 B14 B15 B12 : Nat) (u : World) (h13 : u.heap[B13]? = some (.cells #[.int .u16 ((ln : Nat) : Int)] 25 (0, 0))) (h14 : u.heap[B14]? = some (.cells #[.int .u32 ((n1 : Nat) : Int)] 26 (0, 0))) (h15 : u.heap[B15]? = some (.cells #[.int .u32 ((n2 : Nat) : Int)] 26 (0, 0))) (h12 : u.heap[B12]? = some (.cells (caA c sa cp) 51 (0, 0))) : Calls Tryz.prog 14 #[.int .i64 base, .int .i64 more, ptr B13 0, ptr B14 0, ptr B15 0, ptr B12 0] u (Ret fun v w' => v = .tuple #[.int .i64 ((spW c f base more z1 z2 : Nat) : Int), .bool (spI f base z1 z2)] ∧ Ext [] u w') := by
  refine calls_of Tryz.func14 rfl rfl (fun a hf => ?_)
  have hh := Hp.init u []
  have hfb : 1 ≤ f ∧ f ≤ 50000 := by omega
  have hzb1 : 2000 ≤ z1 ∧ z1 ≤ 16777216 := by omega
  have hzb2 : 2000 ≤ z2 ∧ z2 ≤ 16777216 := by omega
  obtain ⟨r1, r2⟩ := hc.sq; obtain ⟨t1, t2⟩ := hc.fr
  refine sy_sq ?_
  refine o_v hf hh (yv_assign rfl) ?_; clear hf a; intro a hf
  refine o_v hf hh (yv_assign rfl) ?_; clear hf a; intro a hf
  refine o_end ?_
  refine sy_sq ?_
  refine o_v hf hh (y_ld Tryz.sc_25 rfl) ?_; clear hf a; intro a hf
  refine o_v hf hh (yv_convx (.inl rfl) (by kernel_rfl) Tryz.un_3 rfl (by omega) (by simp only [IntKind.top]; omega)) ?_; clear hf a; intro a hf
  refine o_v hf hh (yv_rem rfl rfl (by omega) (by omega)) ?_; clear hf a; intro a hf
  refine ops_v hf hh (yv_cast (y_add rfl rfl (by omega) (by omega)) (intv (b := f) hf9)) (.inl rfl) rfl rfl rfl ?_; clear hf a; intro a hf
  refine o_v hf hh (yv_assign rfl) ?_; clear hf a; intro a hf
  refine o_end ?_
  refine sy_sq ?_
  refine o_v hf hh (yv_move rfl) ?_; clear hf a; intro a hf
  refine o_v hf hh (yv_move rfl) ?_; clear hf a; intro a hf
  refine o_call hf Tryz.en_9 rfl rfl rfl (c_sp3 f f _) ?_; clear hf a; intro v a w hR hf
  obtain ⟨rfl, hx⟩ := hR; replace hh := hh.more hx; clear hx
  refine o_v hf hh (yv_move rfl) ?_; clear hf a; intro a hf
  refine o_v hf hh (yv_move rfl) ?_; clear hf a; intro a hf
  refine o_call hf Tryz.en_9 rfl rfl rfl (c_sp3 base base _) ?_; clear hf a; intro v a w hR hf
  obtain ⟨rfl, hx⟩ := hR; replace hh := hh.more hx; clear hx
  refine o_v hf hh (yv_cast (v' := .agg #[.int .i64 f, .int .i64 f, .int .i64 base, .int .i64 base, .int .i64 0, .int .i64 2000, .int .i64 16777216, .slice none 0 0]) (yv_buildS Tryz.bs_38 rfl rfl) rfl) ?_; clear hf a; intro a hf
  refine o_alloc hf hh Tryz.ze_38 ?_; clear hf hh a; intro B11 a w hf hh
  refine o_store hf hh Tryz.sz_38 fun w hh => ?_
  refine o_end ?_
  refine sy_seq ?_
  refine sy_seq ?_
  replace hh : Hp u [] [(B11, .cells #[.int .i64 f, .int .i64 f, .int .i64 base, .int .i64 base, .int .i64 0, .int .i64 2000, .int .i64 16777216, .slice none 0 0] 38)] w := hh
  refine sy_ops ?_
  refine o_v hf hh (y_ld Tryz.sc_26 rfl) ?_; clear hf a; intro a hf
  refine o_v hf hh (y_ld Tryz.sc_26 rfl) ?_; clear hf a; intro a hf
  refine ops_buildSl hf hh Tryz.bl_53_2 rfl rfl (.inl rfl) rfl ?_; clear hf hh; clear a; intro B36 a w hf hh
  refine o_v hf hh (yv_len Tryz.se_53 rfl) ?_; clear hf a; intro a hf
  refine o_v hf hh (yv_move rfl) ?_; clear hf a; intro a hf
  refine o_end ?_
  refine sy_block ?_
  refine sy_loopH (σ := Nat × Option Addr × Nat × List (Nat × Obj)) [8, 9, 13, 14, 15, 38, 39, 40, 41, 42, 43, 44, 45, 46, 47, 48, 49, 50, 51, 52, 53, 54, 55, 56, 57, 58, 59, 60, 61, 62, 63, 64, 65, 66, 67, 68, 69, 70, 71, 72, 73, 74, 75, 76, 77, 78, 79, 80, 81] (fun q => [(38, .int .i64 (q.1 : Nat))]) (fun q => fun w' => (q.1 ≤ 2 ∧ ∀ j, j < q.1 → f * base / zN z1 z2 j ≤ 2000) ∧ OwnSl 46 9 (.slice q.2.1 (thL (f * base) z1 z2 q.1).length q.2.2.1) (thL (f * base) z1 z2 q.1).length ((thL (f * base) z1 z2 q.1).flatMap thC) q.2.2.2 ∧ Hp u [] ((B11, .cells #[.int .i64 f, .int .i64 f, .int .i64 base, .int .i64 base, .int .i64 0, .int .i64 2000, .int .i64 16777216, .slice q.2.1 (thL (f * base) z1 z2 q.1).length q.2.2.1] 38) :: (B36, .cells #[.int .u32 ((n1 : Nat) : Int), .int .u32 ((n2 : Nat) : Int)] 26) :: q.2.2.2) w') (fun q => 2 - q.1) ((0, none, 0, [])) hf ?_ ?_ ?_
  · repeat' (first | exact True.intro | refine And.intro rfl ?_)
  · exact ⟨⟨Nat.zero_le _, fun j h => absurd h (Nat.not_lt_zero _)⟩, OwnSl.nil _ _, hh.pick [1, 0]⟩
  ·rintro q a w ⟨⟨hi, hq⟩, hOw, hh⟩ hf
   obtain ⟨i, oa, cap, X⟩ := q; simp only at hi hq hOw hh hf ⊢
   refine sy_sq ?_
   refine o_v hf hh (yv_bin rfl rfl rfl) ?_; clear hf a; intro a hf
   refine o_end ?_
   refine sy_seq ?_
   refine sy_cond hf rfl (fun hg8 => ?_) (fun hg8 => ?_)
   ·have hG8 := hg8; try simp only [gS] at hG8
    refine sy_skip ?_
    refine then_n ?_
    refine sy_seq ?_
    refine sy_block ?_
    refine sy_seq ?_
    have hi2 : i < 2 := by omega
    obtain ⟨ni, hni⟩ : ∃ ni : Nat, ni = (if i = 0 then n1 else n2) := ⟨_, rfl⟩
    have hnb : ni < 4294967296 := by rw [hni]; split <;> omega
    have hzi : 2000 + ((ni : Nat) : Int) % 16775217 = zN z1 z2 i := by
      unfold zN
      rw [hni]
      by_cases h0 : i = 0
      · rw [if_pos h0, if_pos h0]; exact hz1
      · rw [if_neg h0, if_neg h0]; exact hz2
    obtain ⟨zi, hzid⟩ : ∃ zi, zN z1 z2 i = zi := ⟨_, rfl⟩
    rw [hzid] at hzi
    have hzib : 2000 ≤ zi ∧ zi ≤ 16777216 := by omega
    have hc36 : (#[Value.int .u32 ((n1 : Nat) : Int), .int .u32 ((n2 : Nat) : Int)] : Array Value)[0 + ((i : Nat) : Int).toNat * 1]? = some (.int .u32 ((ni : Nat) : Int)) := by
      rw [hni]
      match i, hi2 with
      | 0, _ => rfl
      | 1, _ => rfl
      | n + 2, h => exact absurd h (by omega)
    have hlt := thL_len (f * base) z1 z2 (show i ≤ 2 by omega)
    have hp9 := len_okN hfb ⟨hb0, hbw⟩ (by omega) (by omega) (show i ≤ 2 by omega) hq
    have hsn := thL_snoc (f * base) z1 z2 hi2
    rw [hzid] at hsn
    obtain ⟨xi, hxi⟩ : ∃ xi, f * base / zi = xi := ⟨_, rfl⟩
    rw [hxi] at hsn
    refine sy_ops ?_
    refine o_v hf hh (y_ix Tryz.se_53 rfl rfl) ?_; clear hf a; intro a hf
    refine o_v hf hh (y_ld Tryz.sc_26 rfl) ?_; clear hf a; intro a hf
    refine o_v hf hh (yv_assign rfl) ?_; clear hf a; intro a hf
    refine o_end ?_
    refine sy_cut (σ := Nat) [14, 15, 42, 43, 44, 45, 46, 47, 48, 49, 50, 51, 52, 53, 54, 55, 56, 57, 58] (fun Bq => [(14, ptr Bq 0), (15, .int .i64 0)]) (fun Bq => fun w' => Hp u [] ((Bq, .cells #[.int .i64 xi, .int .i64 xi] 35) :: (B11, .cells #[.int .i64 f, .int .i64 f, .int .i64 base, .int .i64 base, .int .i64 0, .int .i64 2000, .int .i64 16777216, .slice oa (thL (f * base) z1 z2 i).length cap] 38) :: (B36, .cells #[.int .u32 ((n1 : Nat) : Int), .int .u32 ((n2 : Nat) : Int)] 26) :: X) w') hf ?_ ?_
    ·replace hh : Hp u [] ((B11, .cells #[.int .i64 f, .int .i64 f, .int .i64 base, .int .i64 base, .int .i64 0, .int .i64 2000, .int .i64 16777216, .slice oa (thL (f * base) z1 z2 i).length cap] 38) :: (B36, .cells #[.int .u32 ((n1 : Nat) : Int), .int .u32 ((n2 : Nat) : Int)] 26) :: X) w := hh
     refine sy_treeC (.q 0 0 (.p 1 (.q 0 2 (.p 3 (.p 4 (.p 5 (.q 0 6 (.p 7 (.q 0 8 (.p 9 (.p 10 (.p 11 (.p 12 (.e2 13 (.p 14 (.p 15 (.p 16 (.e1 17 (.e1 18 (.p 19 (.fin))))))) 17 (.e1 13 (.p 14 (.p 15 (.p 16 (.e1 18 (.p 19 (.fin))))))))))))))))))))) [[]] [(AtE u [] [(B11, .cells #[.int .i64 f, .int .i64 f, .int .i64 base, .int .i64 base, .int .i64 0, .int .i64 2000, .int .i64 16777216, .slice oa (thL (f * base) z1 z2 i).length cap] 38)], [])] Tryz.follows (by kernel_rfl) rfl hh (fun w hh => ?_)
     refine mc_q rfl rfl (AtE.of hh (by intro q hq; rw [List.mem_singleton.1 hq]; simp)) hf (y_lds Tryz.ag_38 rfl) (.inl rfl) rfl rfl ?_; clear hf a; intro a hf
     refine mc_p rfl   hf (yv_fieldAddr Tryz.fo_38_3 rfl) (.inl rfl) rfl rfl ?_; clear hf a; intro a hf
     refine mc_q rfl rfl (AtE.of hh (by intro q hq; rw [List.mem_singleton.1 hq]; simp)) hf (y_ld Tryz.sc_3 rfl) (.inl rfl) rfl rfl ?_; clear hf a; intro a hf
     refine mc_p rfl   hf (yv_move rfl) (.inl rfl) rfl rfl ?_; clear hf a; intro a hf
     refine mc_p rfl   hf (yv_convx (.inl rfl) (by kernel_rfl) Tryz.un_3 rfl (by omega) (by simp only [IntKind.top]; omega)) (.inl rfl) rfl rfl ?_; clear hf a; intro a hf
     refine mc_p rfl   hf (yv_fieldAddr Tryz.fo_38_4 rfl) (.inl rfl) rfl rfl ?_; clear hf a; intro a hf
     refine mc_q rfl rfl (AtE.of hh (by intro q hq; rw [List.mem_singleton.1 hq]; simp)) hf (y_ld Tryz.sc_3 rfl) (.inl rfl) rfl rfl ?_; clear hf a; intro a hf
     refine mc_p rfl   hf (yv_fieldAddr Tryz.fo_38_3 rfl) (.inl rfl) rfl rfl ?_; clear hf a; intro a hf
     refine mc_q rfl rfl (AtE.of hh (by intro q hq; rw [List.mem_singleton.1 hq]; simp)) hf (y_ld Tryz.sc_3 rfl) (.inl rfl) rfl rfl ?_; clear hf a; intro a hf
     refine mc_p rfl   hf (y_sub rfl rfl) (.inl rfl) rfl rfl ?_; clear hf a; intro a hf
     refine mc_p rfl   hf (y_add rfl rfl) (.inl rfl) rfl rfl ?_; clear hf a; intro a hf
     refine mc_p rfl   hf (yv_rem rfl rfl (by omega) (by omega)) (.inl rfl) rfl rfl ?_; clear hf a; intro a hf
     refine mc_p rfl   hf (yv_cast (y_add rfl rfl (by omega) (by omega)) (intv (b := zi) hzi)) (.inl rfl) rfl rfl ?_; clear hf a; intro a hf
     refine ⟨?_, ?_⟩
     ·refine mc_e rfl fun Q1 => ?_
      refine o_call hf Tryz.en_10 rfl rfl rfl (c_StandsS (lenP f base (thL (f * base) z1 z2 i)) oa cap (f * base, f * base) zi hp9 ⟨by show 2000 ≤ zi; omega, by show zi ≤ 16777216; omega⟩ (len_pow f base (shL (f * base) z1 z2 i)) _ (own_thP hOw (fun q hq => hh.get q (by simp [hq])))) ?_; clear hf a; intro v a w hR hf
      rw [hxi] at hR
      obtain ⟨rfl, hx⟩ := hR; replace hh := hh.more hx; clear hx
      refine ops_end ?_
      refine then_n ⟨⟨fun _ _ => (AtE.of hh (by intro q hq; rw [List.mem_singleton.1 hq]; simp)), trivial⟩, ?_⟩
      refine mc_p rfl   hf (yv_move rfl) (.inl rfl) rfl rfl ?_; clear hf a; intro a hf
      refine mc_p rfl   hf (yv_extract rfl rfl) (.inl rfl) rfl rfl ?_; clear hf a; intro a hf
      refine mc_p rfl   hf (yv_extract rfl rfl) (.inl rfl) rfl rfl ?_; clear hf a; intro a hf
      refine mc_e rfl fun Q1 => ?_
      refine o_alloc hf hh Tryz.ze_35 ?_; clear hf hh a; intro B14 a w hf hh
      refine ops_end ?_
      refine then_n ⟨⟨fun _ _ => (AtE.of hh (by intro q hq; rw [List.mem_singleton.1 hq]; simp)), trivial⟩, ?_⟩
      refine mc_e rfl fun Q1 => ?_
      refine o_store hf hh Tryz.sz_35 fun w hh => ?_
      refine ops_end ?_
      refine then_n ⟨⟨fun _ _ => (AtE.of hh (by intro q hq; rw [List.mem_singleton.1 hq]; simp)), trivial⟩, ?_⟩
      refine mc_p rfl   hf (yv_assign rfl) (.inl rfl) rfl rfl ?_; clear hf a; intro a hf
      refine mc_end ?_
      refine then_n ?_
      exact ⟨_, hh, hf.head ⟨rfl, rfl, True.intro⟩ (Keep.cons rfl (Keep.cons rfl (Keep.cons rfl (Keep.cons rfl (Keep.cons rfl (Keep.cons rfl (Keep.cons rfl (Keep.cons rfl (Keep.cons rfl (Keep.cons rfl (Keep.cons rfl (Keep.cons rfl (Keep.cons rfl (Keep.cons rfl (Keep.cons rfl (Keep.cons rfl (Keep.cons rfl (Keep.cons rfl (Keep.cons rfl (Keep.base))))))))))))))))))))⟩
     ·refine mc_e rfl fun Q1 => ?_
      refine o_alloc hf hh Tryz.ze_35 ?_; clear hf hh a; intro B14 a w hf hh
      refine ops_end ?_
      refine then_n ⟨⟨fun _ _ => (AtE.of hh (by intro q hq; rw [List.mem_singleton.1 hq]; simp)), trivial⟩, ?_⟩
      refine mc_e rfl fun Q1 => ?_
      refine o_call hf Tryz.en_10 rfl rfl rfl (c_StandsS (lenP f base (thL (f * base) z1 z2 i)) oa cap (f * base, f * base) zi hp9 ⟨by show 2000 ≤ zi; omega, by show zi ≤ 16777216; omega⟩ (len_pow f base (shL (f * base) z1 z2 i)) _ (own_thP hOw (fun q hq => hh.get q (by simp [hq])))) ?_; clear hf a; intro v a w hR hf
      rw [hxi] at hR
      obtain ⟨rfl, hx⟩ := hR; replace hh := hh.more hx; clear hx
      refine ops_end ?_
      refine then_n ⟨⟨fun _ _ => (AtE.of hh (by intro q hq; rw [List.mem_singleton.1 hq]; simp)), trivial⟩, ?_⟩
      refine mc_p rfl   hf (yv_move rfl) (.inl rfl) rfl rfl ?_; clear hf a; intro a hf
      refine mc_p rfl   hf (yv_extract rfl rfl) (.inl rfl) rfl rfl ?_; clear hf a; intro a hf
      refine mc_p rfl   hf (yv_extract rfl rfl) (.inl rfl) rfl rfl ?_; clear hf a; intro a hf
      refine mc_e rfl fun Q1 => ?_
      refine o_store hf hh Tryz.sz_35 fun w hh => ?_
      refine ops_end ?_
      refine then_n ⟨⟨fun _ _ => (AtE.of hh (by intro q hq; rw [List.mem_singleton.1 hq]; simp)), trivial⟩, ?_⟩
      refine mc_p rfl   hf (yv_assign rfl) (.inl rfl) rfl rfl ?_; clear hf a; intro a hf
      refine mc_end ?_
      refine then_n ?_
      exact ⟨_, hh, hf.head ⟨rfl, rfl, True.intro⟩ (Keep.cons rfl (Keep.cons rfl (Keep.cons rfl (Keep.cons rfl (Keep.cons rfl (Keep.cons rfl (Keep.cons rfl (Keep.cons rfl (Keep.cons rfl (Keep.cons rfl (Keep.cons rfl (Keep.cons rfl (Keep.cons rfl (Keep.cons rfl (Keep.cons rfl (Keep.cons rfl (Keep.cons rfl (Keep.cons rfl (Keep.cons rfl (Keep.base))))))))))))))))))))⟩
    ·rintro Bq a w hh hf
     refine sy_seq ?_
     refine sy_sq ?_
     refine o_v hf hh (yv_move rfl) ?_; clear hf a; intro a hf
     refine o_v hf hh (yv_bin rfl rfl rfl) ?_; clear hf a; intro a hf
     refine o_v hf hh (yv_move rfl) ?_; clear hf a; intro a hf
     refine o_v hf hh (yv_fieldAddr Tryz.fo_35_0 rfl) ?_; clear hf a; intro a hf
     refine o_v hf hh (y_ld Tryz.sc_3 rfl) ?_; clear hf a; intro a hf
     refine o_v hf hh (yv_fieldAddr Tryz.fo_35_1 rfl) ?_; clear hf a; intro a hf
     refine o_v hf hh (y_ld Tryz.sc_3 rfl) ?_; clear hf a; intro a hf
     refine o_v hf hh (yv_bin rfl rfl rfl) ?_; clear hf a; intro a hf
     refine o_v hf hh (y_pf rfl rfl) ?_; clear hf a; intro a hf
     refine o_v hf hh (yv_move rfl) ?_; clear hf a; intro a hf
     refine o_v hf hh (yv_fieldAddr Tryz.fo_35_1 rfl) ?_; clear hf a; intro a hf
     refine o_v hf hh (y_ld Tryz.sc_3 rfl) ?_; clear hf a; intro a hf
     refine o_v hf hh (yv_bin rfl rfl rfl) ?_; clear hf a; intro a hf
     refine o_v hf hh (y_pf rfl rfl) ?_; clear hf a; intro a hf
     refine o_end ?_
     refine sy_cond hf rfl (fun hg21 => ?_) (fun hg21 => ?_)
     ·have hG21 := hg21; try simp only [gS] at hG21
      refine sy_sq ?_
      refine o_v hf hh (yv_assign rfl) ?_; clear hf a; intro a hf
      refine o_v hf hh (yv_assign rfl) ?_; clear hf a; intro a hf
      refine o_end ?_
      refine sy_ret ?_
      refine then_r ?_
      refine blk_r ?_
      refine then_r ?_
      refine then_r ?_
      refine blk_r ?_
      refine then_r ?_
      refine ret_r hf rfl rfl ?_
      obtain ⟨e1, e2⟩ := sp_no (c := c) (more := more) hi2 (show 2000 < f * base / zN z1 z2 i by rw [hzid, hxi]; omega)
      rw [e1, e2]
      exact ⟨rfl, hh.ext⟩
     ·have hG21 := hg21; try simp only [gS] at hG21
      refine sy_skip ?_
      refine then_n ?_
      refine sy_ops ?_
      refine o_v hf hh (yv_fieldAddr Tryz.fo_38_5 rfl) ?_; clear hf a; intro a hf
      refine o_v hf hh (y_ld Tryz.sc_36 rfl) ?_; clear hf a; intro a hf
      refine o_v hf hh (y_lds Tryz.ag_35 rfl) ?_; clear hf a; intro a hf
      refine o_v hf hh (yv_cast (v' := .agg #[.int .i64 xi, .int .i64 xi, .int .i64 0, .int .i64 0]) (yv_buildS Tryz.bs_44 rfl rfl) rfl) ?_; clear hf a; intro a hf
      refine o_v hf hh (yv_cast (v' := .agg #[.int .i64 xi, .int .i64 xi, .int .i64 0, .int .i64 0, .int .i64 0, .int .i64 0, .int .i64 0, .int .i64 0, .int .i64 0]) (yv_buildS Tryz.bs_46 rfl rfl) rfl) ?_; clear hf a; intro a hf
      refine ops_buildSl hf hh Tryz.bl_36_1 rfl rfl (.inl rfl) rfl ?_; clear hf hh; clear a; intro B78 a w hf hh
      replace hh : Hp u [] ((B78, .cells (thA (atT xi)) 46) :: ([(Bq, Obj.cells #[.int .i64 xi, .int .i64 xi] 35), (B11, Obj.cells #[.int .i64 f, .int .i64 f, .int .i64 base, .int .i64 base, .int .i64 0, .int .i64 2000, .int .i64 16777216, .slice oa (thL (f * base) z1 z2 i).length cap] 38), (B36, Obj.cells #[.int .u32 ((n1 : Nat) : Int), .int .u32 ((n2 : Nat) : Int)] 26)] ++ X)) w := hh
      refine ops_append (e := 46) (size := 9) (xs := (thL (f * base) z1 z2 i).flatMap thC) (news := thC (atT xi)) (X := X) (Z := [(Bq, Obj.cells #[.int .i64 xi, .int .i64 xi] 35), (B11, Obj.cells #[.int .i64 f, .int .i64 f, .int .i64 base, .int .i64 base, .int .i64 0, .int .i64 2000, .int .i64 16777216, .slice oa (thL (f * base) z1 z2 i).length cap] 38), (B36, Obj.cells #[.int .u32 ((n1 : Nat) : Int), .int .u32 ((n2 : Nat) : Int)] 26)]) (m := (thL (f * base) z1 z2 i).length) (q := 1) hf (hh.perm (.cons _ (List.perm_append_comm (l₁ := [(Bq, Obj.cells #[.int .i64 xi, .int .i64 xi] 35), (B11, Obj.cells #[.int .i64 f, .int .i64 f, .int .i64 base, .int .i64 base, .int .i64 0, .int .i64 2000, .int .i64 16777216, .slice oa (thL (f * base) z1 z2 i).length cap] 38), (B36, Obj.cells #[.int .u32 ((n1 : Nat) : Int), .int .u32 ((n2 : Nat) : Int)] 26)]) (l₂ := X)))) Tryz.eb_36 rfl rfl hOw rfl rfl rfl (by simp only [maxLen]; omega) (by omega) (.inl rfl) rfl ?_; clear hf hh a; intro v9 X9 a w hO9 hf hh
      replace hh : Hp u [] ([(Bq, Obj.cells #[.int .i64 xi, .int .i64 xi] 35), (B11, Obj.cells #[.int .i64 f, .int .i64 f, .int .i64 base, .int .i64 base, .int .i64 0, .int .i64 2000, .int .i64 16777216, .slice oa (thL (f * base) z1 z2 i).length cap] 38), (B36, Obj.cells #[.int .u32 ((n1 : Nat) : Int), .int .u32 ((n2 : Nat) : Int)] 26)] ++ X9) w := hh.perm List.perm_append_comm
      replace hO9 : OwnSl 46 9 v9 (thL (f * base) z1 z2 (i + 1)).length ((thL (f * base) z1 z2 (i + 1)).flatMap thC) X9 := by rw [hsn, List.length_append, List.flatMap_append]; exact hO9
      obtain ⟨oa9, cap9, rfl⟩ := own_slP hO9
      refine o_v hf hh (yv_fieldAddr Tryz.fo_38_5 rfl) ?_; clear hf a; intro a hf
      refine o_store hf hh Tryz.sz_36 fun w hh => ?_
      refine ops_end ?_
      refine blk_n ?_
      refine then_n ?_
      replace hh : Hp u [] ((Bq, .cells #[.int .i64 xi, .int .i64 xi] 35) :: (B11, .cells #[.int .i64 f, .int .i64 f, .int .i64 base, .int .i64 base, .int .i64 0, .int .i64 2000, .int .i64 16777216, .slice oa9 (thL (f * base) z1 z2 (i + 1)).length cap9] 38) :: (B36, .cells #[.int .u32 ((n1 : Nat) : Int), .int .u32 ((n2 : Nat) : Int)] 26) :: X9) w := hh
      refine sy_ops ?_
      refine o_v hf hh (y_add rfl rfl) ?_; clear hf a; intro a hf
      refine o_v hf hh (yv_move rfl) ?_; clear hf a; intro a hf
      refine ops_end ?_
      refine then_n ?_
      exact ⟨(i + 1, oa9, cap9, X9), ⟨⟨⟨by show i + 1 ≤ 2; omega, fun j hj => by
        rcases Nat.lt_succ_iff_lt_or_eq.1 hj with h | h
        · exact hq j h
        · rw [h, hzid, hxi]; omega⟩, hO9, hh.less (.cons _ (.refl _))⟩, (hf.head (by repeat' (first | exact True.intro | refine And.intro rfl ?_)) (Keep.cons rfl (Keep.cons rfl (Keep.cons rfl (Keep.cons rfl (Keep.cons rfl (Keep.cons rfl (Keep.cons rfl (Keep.cons rfl (Keep.cons rfl (Keep.cons rfl (Keep.cons rfl (Keep.cons rfl (Keep.cons rfl (Keep.cons rfl (Keep.cons rfl (Keep.cons rfl (Keep.cons rfl (Keep.cons rfl (Keep.cons rfl (Keep.cons rfl (Keep.cons rfl (Keep.cons rfl (Keep.cons rfl (Keep.cons rfl (Keep.app rfl (Keep.rm rfl (Keep.cons rfl (Keep.cons rfl (Keep.cons rfl (Keep.cons rfl (Keep.app rfl (Keep.rm rfl Keep.base)))))))))))))))))))))))))))))))))⟩, by show 2 - (i + 1) < 2 - i; omega⟩
   ·have hG8 := hg8; try simp only [gS] at hG8
    refine sy_exit ?_
    refine then_e ?_
    refine then_e ?_
    refine blk_e ?_
    refine then_n ?_
    refine sy_seq ?_
    obtain rfl : i = 2 := by omega
    have hs1 : f * base / z1 ≤ 2000 := hq 0 (by omega)
    have hs2 : f * base / z2 ≤ 2000 := hq 1 (by omega)
    have hfb0 : 0 ≤ f * base := Int.mul_nonneg (by omega) (by omega)
    have hxO := spC_ok hc (l := [f * base / z1, f * base / z2]) (len_okN hfb ⟨hb0, hbw⟩ (by omega) (by omega) (Nat.le_refl 2) hq) hm0 hmq hmf
    have hxy : powO (spC c f base more [f * base / z1, f * base / z2]).pr = some (f * base, f * base) := len_pow f base _
    have hsee := sp_see (c := c) (more := more) hzb1 hzb2 hfb0 hs1 hs2
    refine sy_ops ?_
    refine o_v hf hh (y_lds Tryz.ag_51 rfl) ?_; clear hf a; intro a hf
    refine o_alloc hf hh Tryz.ze_51 ?_; clear hf hh a; intro B16 a w hf hh
    refine o_store hf hh Tryz.sz_51 fun w hh => ?_
    refine o_end ?_
    refine sy_seq ?_
    refine sy_treeC (.q 0 0 (.p 1 (.q 0 2 (.p 3 (.p 4 (.p 5 (.q 0 6 (.p 7 (.p 8 (.p 9 (.e1 10 (.p 11 (.e1 12 (.p 13 (.e1 14 (.fin)))))))))))))))) [[]] [(AtE u [] [(B11, .cells #[.int .i64 f, .int .i64 f, .int .i64 base, .int .i64 base, .int .i64 0, .int .i64 2000, .int .i64 16777216, .slice oa (thL (f * base) z1 z2 2).length cap] 38)], [])] Tryz.follows (by kernel_rfl) rfl hh (fun w hh => ?_)
    refine mc_q rfl rfl (AtE.of hh (by intro q hq; rw [List.mem_singleton.1 hq]; simp)) hf (y_lds Tryz.ag_38 rfl) (.inl rfl) rfl rfl ?_; clear hf a; intro a hf
    refine mc_p rfl   hf (yv_fieldAddr Tryz.fo_51_6 rfl) (.inl rfl) rfl rfl ?_; clear hf a; intro a hf
    refine mc_q rfl rfl (AtE.of hh (by intro q hq; rw [List.mem_singleton.1 hq]; simp)) hf (y_ld Tryz.sc_3 rfl) (.inl rfl) rfl rfl ?_; clear hf a; intro a hf
    refine mc_p rfl   hf (yv_move rfl) (.inl rfl) rfl rfl ?_; clear hf a; intro a hf
    refine mc_p rfl   hf (y_add rfl rfl) (.inl rfl) rfl rfl ?_; clear hf a; intro a hf
    refine mc_p rfl   hf (yv_fieldAddr Tryz.fo_51_7 rfl) (.inl rfl) rfl rfl ?_; clear hf a; intro a hf
    refine mc_q rfl rfl (AtE.of hh (by intro q hq; rw [List.mem_singleton.1 hq]; simp)) hf (y_ld Tryz.sc_3 rfl) (.inl rfl) rfl rfl ?_; clear hf a; intro a hf
    refine mc_p rfl   hf (yv_move rfl) (.inl rfl) rfl rfl ?_; clear hf a; intro a hf
    refine mc_p rfl   hf (y_add rfl rfl) (.inl rfl) rfl rfl ?_; clear hf a; intro a hf
    refine mc_p rfl   hf (yv_fieldAddr Tryz.fo_51_0 rfl) (.inl rfl) rfl rfl ?_; clear hf a; intro a hf
    refine mc_e rfl fun Q1 => ?_
    refine o_store hf hh Tryz.sz_38 fun w hh => ?_
    refine ops_end ?_
    refine then_n ⟨⟨fun _ _ => (AtE.of hh (by intro q hq; rw [List.mem_singleton.1 hq]; simp)), trivial⟩, ?_⟩
    refine mc_p rfl   hf (yv_fieldAddr Tryz.fo_51_6 rfl) (.inl rfl) rfl rfl ?_; clear hf a; intro a hf
    refine mc_e rfl fun Q1 => ?_
    refine o_store hf hh Tryz.sz_3 fun w hh => ?_
    refine ops_end ?_
    refine then_n ⟨⟨fun _ _ => (AtE.of hh (by intro q hq; rw [List.mem_singleton.1 hq]; simp)), trivial⟩, ?_⟩
    refine mc_p rfl   hf (yv_fieldAddr Tryz.fo_51_7 rfl) (.inl rfl) rfl rfl ?_; clear hf a; intro a hf
    refine mc_e rfl fun Q1 => ?_
    refine o_store hf hh Tryz.sz_3 fun w hh => ?_
    refine ops_end ?_
    refine then_n ⟨⟨fun _ _ => (AtE.of hh (by intro q hq; rw [List.mem_singleton.1 hq]; simp)), trivial⟩, ?_⟩
    refine mc_end ?_
    refine then_n ?_
    refine sy_seq ?_
    replace hh : Hp u [] ((B16, .cells (caA (spC c f base more [f * base / z1, f * base / z2]) oa cap) 51) :: (B11, .cells #[.int .i64 f, .int .i64 f, .int .i64 base, .int .i64 base, .int .i64 0, .int .i64 2000, .int .i64 16777216, .slice oa (thL (f * base) z1 z2 2).length cap] 38) :: (B36, .cells #[.int .u32 ((n1 : Nat) : Int), .int .u32 ((n2 : Nat) : Int)] 26) :: X) w := hh
    refine sy_ops ?_
    refine o_v hf hh (y_lds Tryz.ag_51 rfl) ?_; clear hf a; intro a hf
    refine o_call hf Tryz.en_15 rfl rfl rfl (c_Seen (spC c f base more [f * base / z1, f * base / z2]) oa cap (f * base, f * base) hxO hxy _ (own_thP (l := thL (f * base) z1 z2 2) hOw (fun q hq => hh.get q (by simp [hq])))) ?_; clear hf a; intro v a w hR hf
    obtain ⟨s9, rfl, hs9, hx⟩ := hR; replace hh := hh.more hx; clear hx
    obtain rfl := see_three hs9 hsee
    refine o_v hf hh (yv_move rfl) ?_; clear hf a; intro a hf
    refine o_v hf hh (yv_extract rfl rfl) ?_; clear hf a; intro a hf
    refine o_v hf hh (yv_extract rfl rfl) ?_; clear hf a; intro a hf
    refine o_v hf hh (yv_assign rfl) ?_; clear hf a; intro a hf
    refine o_v hf hh (yv_assign rfl) ?_; clear hf a; intro a hf
    refine o_end ?_
    refine sy_sq ?_
    refine o_v hf hh (y_lds Tryz.ag_51 rfl) ?_; clear hf a; intro a hf
    refine o_call hf Tryz.en_16 rfl rfl rfl (c_mWhy (spC c f base more [f * base / z1, f * base / z2]) oa cap (f * base, f * base) hxO hxy _ (own_thP (l := thL (f * base) z1 z2 2) hOw (fun q hq => hh.get q (by simp [hq])))) ?_; clear hf a; intro v a w hR hf
    obtain ⟨⟨q1, q2, rfl⟩, hx⟩ := hR; replace hh := hh.more hx; clear hx
    obtain ⟨E9, hE9, hE0⟩ : ∃ E9 : Int, E9 = (if whyN (spC c f base more [f * base / z1, f * base / z2]) (f * base, f * base) = 0 then 0 else 11) ∧ (E9 = 0 ∨ E9 = 11) := ⟨_, rfl, by split <;> simp⟩
    rw [← hE9] at hf
    refine o_v hf hh (yv_move rfl) ?_; clear hf a; intro a hf
    refine o_v hf hh (yv_extract rfl rfl) ?_; clear hf a; intro a hf
    refine o_v hf hh (yv_extract rfl rfl) ?_; clear hf a; intro a hf
    refine o_v hf hh (yv_extract rfl rfl) ?_; clear hf a; intro a hf
    refine o_v hf hh (yv_extract rfl rfl) ?_; clear hf a; intro a hf
    refine o_v hf hh (yv_assign rfl) ?_; clear hf a; intro a hf
    refine o_v hf hh (yv_assign rfl) ?_; clear hf a; intro a hf
    refine o_v hf hh (yv_assign rfl) ?_; clear hf a; intro a hf
    refine o_v hf hh (yv_assign rfl) ?_; clear hf a; intro a hf
    refine o_end ?_
    refine sy_sq ?_
    refine o_v hf hh (yv_move rfl) ?_; clear hf a; intro a hf
    refine o_v hf hh (yv_move rfl) ?_; clear hf a; intro a hf
    refine o_v hf hh (yv_bin rfl rfl rfl) ?_; clear hf a; intro a hf
    refine o_v hf hh (yv_move rfl) ?_; clear hf a; intro a hf
    refine o_v hf hh (yv_move rfl) ?_; clear hf a; intro a hf
    refine o_v hf hh (yv_bin rfl rfl rfl) ?_; clear hf a; intro a hf
    refine o_v hf hh (y_pt rfl rfl) ?_; clear hf a; intro a hf
    refine o_v hf hh (yv_move rfl) ?_; clear hf a; intro a hf
    refine o_v hf hh (yv_move rfl) ?_; clear hf a; intro a hf
    refine o_v hf hh (yv_bin rfl rfl rfl) ?_; clear hf a; intro a hf
    refine o_v hf hh (yv_move rfl) ?_; clear hf a; intro a hf
    refine guard_split hf (t := 117) rfl (fun hg36 => ?_) (fun hg36 => ?_)
    ·have hG36 := hg36; try simp only [gS] at hG36
     refine o_off hf ?_; clear hf a; intro a hf
     refine o_off hf ?_; clear hf a; intro a hf
     refine o_v hf hh (y_pt rfl rfl) ?_; clear hf a; intro a hf
     refine o_v hf hh (y_pt rfl rfl) ?_; clear hf a; intro a hf
     refine o_v hf hh (yv_assign rfl) ?_; clear hf a; intro a hf
     refine o_v hf hh (yv_assign rfl) ?_; clear hf a; intro a hf
     refine o_end ?_
     refine sy_ret ?_
     refine ret_r hf rfl rfl ?_
     obtain ⟨e1, e2⟩ := sp_yes (c := c) (more := more) hbw hs1 hs2
     rw [e1, e2]
     first
       | exact ⟨rfl, hh.ext⟩
       | exact ⟨by rw [show decide (E9 = 11) = true from decide_eq_true (by omega)]; rfl, hh.ext⟩
    ·have hG36 := hg36; try simp only [gS] at hG36
     refine o_v hf hh (yv_move rfl) ?_; clear hf a; intro a hf
     refine o_v hf hh (yv_bin rfl rfl rfl) ?_; clear hf a; intro a hf
     refine o_v hf hh (y_pf rfl rfl) ?_; clear hf a; intro a hf
     refine o_v hf hh (y_pt rfl rfl) ?_; clear hf a; intro a hf
     refine o_v hf hh (yv_assign rfl) ?_; clear hf a; intro a hf
     refine o_v hf hh (yv_assign rfl) ?_; clear hf a; intro a hf
     refine o_end ?_
     refine sy_ret ?_
     refine ret_r hf rfl rfl ?_
     obtain ⟨e1, e2⟩ := sp_yes (c := c) (more := more) hbw hs1 hs2
     rw [e1, e2]
     first
       | exact ⟨rfl, hh.ext⟩
       | exact ⟨by rw [show decide (E9 = 11) = true from decide_eq_true (by omega)]; rfl, hh.ext⟩
theorem c_sp (c : CaD) (sa : Option Addr) (cp : Nat) (hc : CaOk c) (base more : Int) (ln n1 n2 : Nat) (f z1 z2 : Int) (hln : ln ≤ 65535) (hn1 : n1 < 4294967296) (hn2 : n2 < 4294967296) (hf9 : 1 + ((ln : Nat) : Int) % 50000 = f) (hz1 : 2000 + ((n1 : Nat) : Int) % 16775217 = z1) (hz2 : 2000 + ((n2 : Nat) : Int) % 16775217 = z2) (hb0 : 1 ≤ base) (hm0 : 0 ≤ more) (hmq : c.squeeze + more ≤ 10000) (hmf : c.front + more ≤ 10000) (B13 B14 B15 B12 : Nat) (u : World) (h13 : u.heap[B13]? = some (.cells #[.int .u16 ((ln : Nat) : Int)] 25 (0, 0))) (h14 : u.heap[B14]? = some (.cells #[.int .u32 ((n1 : Nat) : Int)] 26 (0, 0))) (h15 : u.heap[B15]? = some (.cells #[.int .u32 ((n2 : Nat) : Int)] 26 (0, 0))) (h12 : u.heap[B12]? = some (.cells (caA c sa cp) 51 (0, 0))) : Calls Tryz.prog 14 #[.int .i64 base, .int .i64 more, ptr B13 0, ptr B14 0, ptr B15 0, ptr B12 0] u (Ret fun v w' => v = .tuple #[.int .i64 ((spW c f base more z1 z2 : Nat) : Int), .bool (spI f base z1 z2)] ∧ Ext [] u w') := by
  by_cases hbw : base ≤ 10000
  · exact c_spok c sa cp hc base more ln n1 n2 f z1 z2 hln hn1 hn2 hf9 hz1 hz2 hb0 hm0 hmq hmf hbw B13 B14 B15 B12 u h13 h14 h15 h12
  · obtain ⟨e1, e2⟩ := sp_big (c := c) (f := f) (more := more) (z1 := z1) (z2 := z2) (show 10000 < base by omega)
    have h := c_spbig c sa cp hc base more ln n1 n2 f z1 z2 hln hn1 hn2 hf9 hz1 hz2 hb0 hm0 hmq hmf (by omega) B13 B14 B15 B12 u h13 h14 h15 h12
    rw [e1, e2]
    exact h
end Go.Proofs.YtccpgpnekoncoaaGreatDoor

namespace Go.BarM
open Go.Sy

structure Scn where
  least : Int
  most : Int
  calm : Int
structure BarD where
  slots : Int
  pitch : Int
  broken : Int
  most : Int
  scenes : List Scn

/-- How many slots of p lie between two. -/
def between (p l r : Nat) : Nat := ((List.range' (l + 1) (r - (l + 1))).filter (p.testBit ·)).length

theorem between_start (p l : Nat) : between p l (l + 1) = 0 := by simp [between]
theorem between_step (p l r : Nat) (h : l < r) : between p l (r + 1) = between p l r + (if p.testBit r then 1 else 0) := by
  unfold between
  rw [show r + 1 - (l + 1) = (r - (l + 1)) + 1 by omega, List.range'_concat, List.filter_append, List.length_append]
  rw [show l + 1 + 1 * (r - (l + 1)) = r by omega]
  cases h2 : p.testBit r <;> simp [h2]
/-- Does p take a scene by two slots? -/
def byB (b : BarD) (p : Nat) (s : Scn) (l r : Nat) : Bool :=
  decide (l < r) && p.testBit l && p.testBit r && decide (s.least ≤ b.pitch * ((r : Int) - l) ∧ b.pitch * ((r : Int) - l) ≤ s.most) && decide ((between p l r : Int) ≤ s.calm)

def okScn (s : Scn) : Bool := decide (0 ≤ s.least ∧ s.least ≤ 10000) && decide (s.least ≤ s.most ∧ s.most ≤ 10000) && decide (0 ≤ s.calm ∧ s.calm ≤ 16)
def okBar (b : BarD) : Bool :=
  decide (1 ≤ b.slots ∧ b.slots ≤ 16) && decide (1 ≤ b.pitch ∧ b.pitch ≤ 1000) && decide (0 ≤ b.broken ∧ b.broken ≤ 2 ^ b.slots.toNat - 1) && decide (0 ≤ b.most ∧ b.most ≤ 16) && decide (b.scenes.length ≤ 10) && b.scenes.all okScn

def better (p : Nat) (c x : Nat × Nat) : Bool :=
  decide (between p c.1 c.2 < between p x.1 x.2) || (decide (between p c.1 c.2 = between p x.1 x.2) && decide (x.2 - x.1 < c.2 - c.1))
def upd (b : BarD) (p : Nat) (s : Scn) (o : Option (Nat × Nat)) (c : Nat × Nat) : Option (Nat × Nat) :=
  if byB b p s c.1 c.2 then
    match o with
    | none => some c
    | some x => if better p c x then some c else some x
  else o
/-- Pairs of slots, by left, then by right. -/
def rowTo (l r : Nat) : List (Nat × Nat) := (List.range' (l + 1) (r - (l + 1))).map fun k => (l, k)
def pairsTo (S l : Nat) : List (Nat × Nat) := (List.range l).flatMap fun i => rowTo i S
def bestF (b : BarD) (p : Nat) (s : Scn) (l r : Nat) : Option (Nat × Nat) := (pairsTo b.slots.toNat l ++ rowTo l r).foldl (upd b p s) none
/-- The two slots by which a plan takes a scene. -/
def best (b : BarD) (p : Nat) (s : Scn) : Option (Nat × Nat) := (pairsTo b.slots.toNat b.slots.toNat).foldl (upd b p s) none

theorem pairsTo_step (S l : Nat) : pairsTo S (l + 1) = pairsTo S l ++ rowTo l S := by
  simp [pairsTo, List.range_succ]
/-- The scenes that a plan takes, the first k of them looked at. -/
def takenTo (b : BarD) (p : Nat) (k : Nat) : Nat := (List.range k).foldl (fun acc i => match b.scenes[i]? with | some s => if (best b p s).isSome then acc + 2 ^ i else acc | none => acc) 0
def taken (b : BarD) (p : Nat) : Nat := takenTo b p b.scenes.length
theorem takenTo_zero (b : BarD) (p : Nat) : takenTo b p 0 = 0 := rfl
theorem takenTo_step (b : BarD) (p k : Nat) (s : Scn) (h : b.scenes[k]? = some s) : takenTo b p (k + 1) = (if (best b p s).isSome then takenTo b p k + 2 ^ k else takenTo b p k) := by
  unfold takenTo; rw [List.range_succ, List.foldl_append]; simp [h]
theorem takenTo_lt (b : BarD) (p : Nat) : ∀ k, takenTo b p k < 2 ^ k
  | 0 => by simp [takenTo]
  | k + 1 => by
    have ih := takenTo_lt b p k
    have e : takenTo b p (k + 1) = (match b.scenes[k]? with | some s => if (best b p s).isSome then takenTo b p k + 2 ^ k else takenTo b p k | none => takenTo b p k) := by
      unfold takenTo; rw [List.range_succ, List.foldl_append]; rfl
    rw [e, Nat.pow_succ]
    cases b.scenes[k]? with
    | none => simp only; omega
    | some s => simp only; split <;> omega

/-- Is a number a plan of a bar? -/
def isPlan (b : BarD) (p : Nat) : Bool := decide (p < 2 ^ b.slots.toNat) && decide ((pc p : Int) ≤ b.most) && (List.range b.slots.toNat).all fun k => !(p.testBit k && b.broken.toNat.testBit k)

structure OkS (s : Scn) : Prop where
  l1 : 0 ≤ s.least
  l2 : s.least ≤ 10000
  m1 : s.least ≤ s.most
  m2 : s.most ≤ 10000
  c1 : 0 ≤ s.calm
  c2 : s.calm ≤ 16
structure Valid (b : BarD) : Prop where
  s1 : 1 ≤ b.slots
  s2 : b.slots ≤ 16
  p1 : 1 ≤ b.pitch
  p2 : b.pitch ≤ 1000
  k1 : 0 ≤ b.broken
  k2 : b.broken ≤ 2 ^ b.slots.toNat - 1
  m1 : 0 ≤ b.most
  m2 : b.most ≤ 16
  n : b.scenes.length ≤ 10
  sc : ∀ s ∈ b.scenes, OkS s
theorem okScn_iff (s : Scn) : okScn s = true ↔ OkS s := by
  simp only [okScn, Bool.and_eq_true, decide_eq_true_eq]
  exact ⟨fun h => ⟨by omega, by omega, by omega, by omega, by omega, by omega⟩, fun h => by obtain ⟨a, b, c, d, e, f⟩ := h; omega⟩
theorem okBar_iff (b : BarD) : okBar b = true ↔ Valid b := by
  simp only [okBar, Bool.and_eq_true, decide_eq_true_eq, List.all_eq_true]
  constructor
  · rintro ⟨⟨⟨⟨⟨h1, h2⟩, h3⟩, h4⟩, h5⟩, h6⟩
    exact ⟨h1.1, h1.2, h2.1, h2.2, h3.1, h3.2, h4.1, h4.2, h5, fun s hs => (okScn_iff s).1 (h6 s hs)⟩
  · intro h
    exact ⟨⟨⟨⟨⟨⟨h.s1, h.s2⟩, h.p1, h.p2⟩, h.k1, h.k2⟩, h.m1, h.m2⟩, h.n⟩, fun s hs => (okScn_iff s).2 (h.sc s hs)⟩
theorem okBar_no {b : BarD} (h : Valid b → False) : false = okBar b := by
  cases hb : okBar b
  · rfl
  · exact (h ((okBar_iff b).1 hb)).elim
theorem okBar_yes {b : BarD} (h : Valid b) : true = okBar b := ((okBar_iff b).2 h).symm
theorem isPlan_iff (b : BarD) (p : Nat) : isPlan b p = true ↔ p < 2 ^ b.slots.toNat ∧ (pc p : Int) ≤ b.most ∧ ∀ k, k < b.slots.toNat → ¬ (p.testBit k = true ∧ b.broken.toNat.testBit k = true) := by
  simp only [isPlan, Bool.and_eq_true, decide_eq_true_eq, List.all_eq_true, List.mem_range, and_assoc]
  refine and_congr_right fun _ => and_congr_right fun _ => forall_congr' fun k => imp_congr_right fun _ => ?_
  cases p.testBit k <;> cases b.broken.toNat.testBit k <;> simp
def isPlanI (b : BarD) (p : Int) : Bool := decide (0 ≤ p) && isPlan b p.toNat
theorem isPlanI_no {b : BarD} {p : Int} (h : 0 ≤ p → isPlan b p.toNat = true → False) : false = isPlanI b p := by
  cases hb : isPlanI b p
  · rfl
  · simp [isPlanI] at hb; exact (h hb.1 hb.2).elim
theorem mem_rowTo {l r : Nat} {c : Nat × Nat} (h : c ∈ rowTo l r) : c.1 = l ∧ l < c.2 ∧ c.2 < r := by
  unfold rowTo at h
  obtain ⟨k, hk, rfl⟩ := List.mem_map.1 h
  rw [List.mem_range'_1] at hk
  simp; omega
theorem mem_pairsTo {S l : Nat} {c : Nat × Nat} (h : c ∈ pairsTo S l) : c.1 < l ∧ c.1 < c.2 ∧ c.2 < S := by
  unfold pairsTo at h
  obtain ⟨i, hi, hc⟩ := List.mem_flatMap.1 h
  have := mem_rowTo hc
  simp at hi; omega
attribute [irreducible] between best bestF taken takenTo byB upd isPlanI isPlan okBar okScn
end Go.BarM

namespace Go.Proofs.YtccpgpnekoncoaaGreatDoor
open Go Go.Sy Go.BarM
theorem c44 (n lo hi : Int) (w : World) : Calls Tryz.prog 26 #[.int .i64 n, .int .i64 lo, .int .i64 hi] w (Ret fun v w' => v = .bool (decide (lo ≤ n ∧ n ≤ hi)) ∧ Ext [] w w') := by
  refine calls_of Tryz.func26 rfl rfl (fun a hf => ?_)
  have hh := Hp.init w []
  refine sy_seq ?_
  refine sy_ops ?_
  refine ops_v hf hh (yv_assign rfl) (.inl rfl) rfl rfl rfl ?_; clear hf; clear a; intro a hf
  refine ops_end ?_
  refine then_n ?_
  refine sy_seq ?_
  refine sy_ops ?_
  refine ops_v hf hh (yv_move rfl) (.inl rfl) rfl rfl rfl ?_; clear hf; clear a; intro a hf
  refine ops_v hf hh (yv_move rfl) (.inl rfl) rfl rfl rfl ?_; clear hf; clear a; intro a hf
  refine ops_v hf hh (yv_bin rfl rfl rfl) (.inl rfl) rfl rfl rfl ?_; clear hf; clear a; intro a hf
  refine ops_v hf hh (yv_move rfl) (.inl rfl) rfl rfl rfl ?_; clear hf; clear a; intro a hf
  refine guard_split hf (t := 10) rfl (fun hg2 => ?_) (fun hg2 => ?_)
  · have hG2 := hg2; try simp only [gS] at hG2
    refine ops_v hf hh (yv_move rfl) (gon rfl rfl rfl (by first | assumption | rfl | (simp; done))) rfl rfl rfl ?_; clear hf; clear a; intro a hf
    refine ops_v hf hh (yv_move rfl) (gon rfl rfl rfl (by first | assumption | rfl | (simp; done))) rfl rfl rfl ?_; clear hf; clear a; intro a hf
    refine ops_v hf hh (yv_bin rfl rfl rfl) (gon rfl rfl rfl (by first | assumption | rfl | (simp; done))) rfl rfl rfl ?_; clear hf; clear a; intro a hf
    refine ops_v hf hh (yv_pick_t rfl (by first | assumption | rfl | (simp; done)) rfl) (.inl rfl) rfl rfl rfl ?_; clear hf; clear a; intro a hf
    refine ops_v hf hh (yv_assign rfl) (.inl rfl) rfl rfl rfl ?_; clear hf; clear a; intro a hf
    refine ops_end ?_
    refine then_n ?_
    refine sy_ret ?_
    refine ret_r hf rfl rfl ?_
    refine ⟨?_, hh.ext⟩; simp [tup]; omega
  · have hG2 := hg2; try simp only [gS] at hG2
    refine ops_off hf (goff rfl rfl rfl (by first | assumption | rfl | (simp; done))) rfl rfl ?_; clear hf; clear a; intro a hf
    refine ops_off hf (goff rfl rfl rfl (by first | assumption | rfl | (simp; done))) rfl rfl ?_; clear hf; clear a; intro a hf
    refine ops_off hf (goff rfl rfl rfl (by first | assumption | rfl | (simp; done))) rfl rfl ?_; clear hf; clear a; intro a hf
    refine ops_v hf hh (yv_pick_f rfl (by first | assumption | rfl | (simp; done)) rfl) (.inl rfl) rfl rfl rfl ?_; clear hf; clear a; intro a hf
    refine ops_v hf hh (yv_assign rfl) (.inl rfl) rfl rfl rfl ?_; clear hf; clear a; intro a hf
    refine ops_end ?_
    refine then_n ?_
    refine sy_ret ?_
    refine ret_r hf rfl rfl ?_
    refine ⟨?_, hh.ext⟩; simp [tup]; omega
theorem c56n (n : Nat) (hn : n ≤ 62) (w : World) : Calls Tryz.prog 27 #[.int .i64 n] w (Ret fun v w' => v = .int .i64 (2 ^ n : Nat) ∧ Ext [] w w') := by
  refine calls_of Tryz.func27 rfl rfl (fun a hf => ?_)
  have hh := Hp.init w []
  refine sy_seq ?_
  refine sy_ops ?_
  refine ops_v hf hh (yv_assign rfl) (.inl rfl) rfl rfl rfl ?_; clear hf; clear a; intro a hf
  refine ops_end ?_
  refine then_n ?_
  refine sy_seq ?_
  refine sy_ops ?_
  refine ops_v hf hh (yv_assign rfl) (.inl rfl) rfl rfl rfl ?_; clear hf; clear a; intro a hf
  refine ops_end ?_
  refine then_n ?_
  refine sy_seq ?_
  refine sy_seq ?_
  refine sy_ops ?_
  refine ops_v hf hh (yv_assign rfl) (.inl rfl) rfl rfl rfl ?_; clear hf; clear a; intro a hf
  refine ops_end ?_
  refine then_n ?_
  refine sy_block ?_
  refine sy_loopF (σ := Nat) [3, 4, 5, 6, 7, 8, 9, 10, 11] (fun k => [(3, .int .i64 (2 ^ k : Nat)), (4, .int .i64 k)]) (fun k => k ≤ n) (fun k => n - k) (0) hf hh ?_ ?_ ?_
  · repeat' (first | exact True.intro | refine And.intro rfl ?_)
  · first | exact True.intro | omega | (simp; omega) | simp
  · rintro k a w hpr hf hh
    have hp62 : 2 ^ k ≤ 2 ^ 62 := Nat.pow_le_pow_right (by omega) (by omega)
    have hpl : k < n → 2 * 2 ^ k ≤ 2 ^ 62 := fun h => by rw [← Nat.pow_succ']; exact Nat.pow_le_pow_right (by omega) (by omega)
    refine sy_seq ?_
    refine sy_seq ?_
    refine sy_ops ?_
    refine ops_v hf hh (yv_move rfl) (.inl rfl) rfl rfl rfl ?_; clear hf; clear a; intro a hf
    refine ops_v hf hh (yv_move rfl) (.inl rfl) rfl rfl rfl ?_; clear hf; clear a; intro a hf
    refine ops_v hf hh (yv_bin rfl rfl rfl) (.inl rfl) rfl rfl rfl ?_; clear hf; clear a; intro a hf
    refine ops_end ?_
    refine then_n ?_
    refine sy_cond hf rfl (fun hg2 => ?_) (fun hg2 => ?_)
    · have hG2 := hg2; try simp only [gS] at hG2
      refine sy_skip ?_
      refine then_n ?_
      refine sy_seq ?_
      refine sy_block ?_
      refine sy_ops ?_
      refine ops_v hf hh (yv_move rfl) (.inl rfl) rfl rfl rfl ?_; clear hf; clear a; intro a hf
      first | refine ops_v hf hh (yv_mul rfl rfl (by omega) (by omega)) (.inl rfl) rfl rfl rfl ?_; clear hf; clear a; intro a hf | refine ops_v hf hh (yv_bin rfl rfl rfl) (.inl rfl) rfl rfl rfl ?_; clear hf; clear a; intro a hf
      refine ops_v hf hh (yv_assign rfl) (.inl rfl) rfl rfl rfl ?_; clear hf; clear a; intro a hf
      refine ops_end ?_
      refine blk_n ?_
      refine then_n ?_
      refine sy_ops ?_
      refine ops_v hf hh (yv_move rfl) (.inl rfl) rfl rfl rfl ?_; clear hf; clear a; intro a hf
      first | refine ops_v hf hh (yv_add rfl rfl (by omega) (by omega)) (.inl rfl) rfl rfl rfl ?_; clear hf; clear a; intro a hf | refine ops_v hf hh (yv_bin rfl rfl rfl) (.inl rfl) rfl rfl rfl ?_; clear hf; clear a; intro a hf
      refine ops_v hf hh (yv_assign rfl) (.inl rfl) rfl rfl rfl ?_; clear hf; clear a; intro a hf
      refine ops_end ?_
      refine then_n ?_
      refine ⟨k + 1, ⟨by omega, ?_, hh⟩, by omega⟩
      refine hf.head ⟨congrArg (fun z => some (Value.int IntKind.i64 z)) ?_, rfl, True.intro⟩ (Keep.cons rfl (Keep.cons rfl (Keep.cons rfl (Keep.cons rfl (Keep.cons rfl (Keep.cons rfl (Keep.cons rfl (Keep.cons rfl (Keep.cons rfl (Keep.app rfl (Keep.rm rfl Keep.base)))))))))))
      rw [Nat.pow_succ]; push_cast; omega
    · have hG2 := hg2; try simp only [gS] at hG2
      refine sy_exit ?_
      refine then_e ?_
      refine then_e ?_
      refine blk_e ?_
      refine then_n ?_
      refine sy_seq ?_
      refine sy_ops ?_
      refine ops_v hf hh (yv_move rfl) (.inl rfl) rfl rfl rfl ?_; clear hf; clear a; intro a hf
      refine ops_v hf hh (yv_assign rfl) (.inl rfl) rfl rfl rfl ?_; clear hf; clear a; intro a hf
      refine ops_end ?_
      refine then_n ?_
      refine sy_ret ?_
      refine ret_r hf rfl rfl ?_
      refine ⟨?_, hh.ext⟩
      have : k = n := by omega
      subst this; rfl
theorem c56 (n : Int) (h0 : 0 ≤ n) (hn : n ≤ 62) (w : World) : Calls Tryz.prog 27 #[.int .i64 n] w (Ret fun v w' => v = .int .i64 (2 ^ n.toNat : Nat) ∧ Ext [] w w') := by
  obtain ⟨m, rfl⟩ := Int.eq_ofNat_of_zero_le h0
  exact c56n m (by omega) w
end Go.Proofs.YtccpgpnekoncoaaGreatDoor

namespace Go.Proofs.YtccpgpnekoncoaaGreatDoor
open Go Go.Sy Go.BarM
/-- A bar, as a call is handed it. -/
abbrev barV (b : BarD) (sa : Option Addr) (sc : Nat) : Value := .agg #[.int .i64 b.slots, .int .i64 b.pitch, .int .i64 b.broken, .int .i64 b.most, .slice sa b.scenes.length sc]
/-- The scenes lie in memory. -/
def ScAt (w : World) (sa : Option Addr) (l : List Scn) : Prop :=
  ∀ i s, l[i]? = some s → ∃ blk off c T fr, sa = some ⟨blk, off, none⟩ ∧ w.heap[blk]? = some (.cells c T fr) ∧ cellsAt c (off + i * 3) 3 = some [.int .i64 s.least, .int .i64 s.most, .int .i64 s.calm]
theorem ScAt.ext {w w' : World} {sa : Option Addr} {l : List Scn} (h : ScAt w sa l) (e : Ext [] w w') : ScAt w' sa l := fun i s hi =>
  let ⟨blk, off, c, T, fr, h1, h2, h3⟩ := h i s hi
  ⟨blk, off, c, T, fr, h1, e.get h2, h3⟩
theorem len_of {l : List Scn} {i : Nat} {s : Scn} (h : l[i]? = some s) : i < l.length := (List.getElem?_eq_some_iff.1 h).1
theorem scn_of {l : List Scn} {i : Nat} (h : i < l.length) : ∃ s, l[i]? = some s := ⟨l[i], by simp [h]⟩
end Go.Proofs.YtccpgpnekoncoaaGreatDoor

namespace Go.Proofs.YtccpgpnekoncoaaGreatDoor
open Go Go.Sy Go.BarM
theorem shl_bd {n : Int} (h1 : 1 ≤ n) (h2 : n ≤ 16) : 2 ≤ ((2 ^ n.toNat : Nat) : Int) ∧ ((2 ^ n.toNat : Nat) : Int) ≤ 65536 := by
  have a : 2 ^ 1 ≤ 2 ^ n.toNat := Nat.pow_le_pow_right (by omega) (by omega)
  have b : 2 ^ n.toNat ≤ 2 ^ 16 := Nat.pow_le_pow_right (by omega) (by omega)
  omega
theorem cast_pow (n : Nat) : ((2 ^ n : Nat) : Int) = (2 : Int) ^ n := by push_cast; rfl
theorem testBit_lt {p k n : Nat} (h : p < 2 ^ n) (hk : n ≤ k) : p.testBit k = false := Nat.testBit_lt_two_pow (Nat.lt_of_lt_of_le h (Nat.pow_le_pow_right (by omega) hk))
theorem c28 (b : BarD) (sa : Option Addr) (sc : Nat) (w : World) (hS : ScAt w sa b.scenes) :
    Calls Tryz.prog 7 #[barV b sa sc] w (Ret fun v w' => v = .bool (okBar b) ∧ Ext [] w w') := by
  refine calls_of Tryz.func7 rfl rfl (fun a hf => ?_)
  have hh := Hp.init w []
  have hpw := @shl_bd b.slots
  have hpw2 := cast_pow b.slots.toNat
  refine sy_seq ?_
  refine sy_ops ?_
  refine ops_box hf hh rfl (.inl rfl) rfl ?_; clear hf hh; clear a; intro B1 a w hf hh
  refine ops_v hf hh (yv_assign rfl) (.inl rfl) rfl rfl rfl ?_; clear hf; clear a; intro a hf
  refine ops_end ?_
  refine then_n ?_
  refine sy_seq ?_
  refine sy_seq ?_
  refine sy_quiet (C := Hp _ _ _) Tryz.follows (by kernel_rfl) (hh.drawn _) ?_
  refine q_v hf (yv_fieldAddr Tryz.fo_24_0 rfl) (.inl rfl) rfl rfl ?_; clear hf; clear a; intro a hf
  refine q_v hf (yv_load Tryz.sc_3 rfl (fun _ h => by first | exact h.at (i := 0) rfl | exact h.at (i := 1) rfl | exact h.at (i := 2) rfl | exact h.at (i := 3) rfl | exact h.old hb) (by first | rfl | assumption)) (.inl rfl) rfl rfl ?_; clear hf; clear a; intro a hf
  refine q_callE hf Tryz.en_26 rfl rfl rfl (.inl rfl) rfl (fun w hh => c44 _ _ _ _) ?_; clear hf; clear a; intro a hf
  refine q_v hf (yv_not rfl) (.inl rfl) rfl rfl ?_; clear hf; clear a; intro a hf
  refine q_v hf (yv_move rfl) (.inl rfl) rfl rfl ?_; clear hf; clear a; intro a hf
  refine guard_splitq hf (t := 9) rfl (fun hg2 => ?_) (fun hg2 => ?_)
  · have hG2 := hg2; try simp only [gS] at hG2
    refine q_off hf (goff rfl rfl rfl (by first | assumption | rfl | (simp; done))) rfl rfl ?_; clear hf; clear a; intro a hf
    refine q_off hf (goff rfl rfl rfl (by first | assumption | rfl | (simp; done))) rfl rfl ?_; clear hf; clear a; intro a hf
    refine q_off hf (goff rfl rfl rfl (by first | assumption | rfl | (simp; done))) rfl rfl ?_; clear hf; clear a; intro a hf
    refine q_off hf (goff rfl rfl rfl (by first | assumption | rfl | (simp; done))) rfl rfl ?_; clear hf; clear a; intro a hf
    refine q_v hf (yv_pick_t rfl (by first | assumption | rfl | (simp; done)) rfl) (.inl rfl) rfl rfl ?_; clear hf; clear a; intro a hf
    refine q_v hf (yv_move rfl) (.inl rfl) rfl rfl ?_; clear hf; clear a; intro a hf
    refine q_off hf (goff rfl rfl rfl (by first | assumption | rfl | (simp; done))) rfl rfl ?_; clear hf; clear a; intro a hf
    refine q_off hf (goff rfl rfl rfl (by first | assumption | rfl | (simp; done))) rfl rfl ?_; clear hf; clear a; intro a hf
    refine q_off hf (goff rfl rfl rfl (by first | assumption | rfl | (simp; done))) rfl rfl ?_; clear hf; clear a; intro a hf
    refine q_off hf (goff rfl rfl rfl (by first | assumption | rfl | (simp; done))) rfl rfl ?_; clear hf; clear a; intro a hf
    refine q_off hf (goff rfl rfl rfl (by first | assumption | rfl | (simp; done))) rfl rfl ?_; clear hf; clear a; intro a hf
    refine q_off hf (goff rfl rfl rfl (by first | assumption | rfl | (simp; done))) rfl rfl ?_; clear hf; clear a; intro a hf
    refine q_off hf (goff rfl rfl rfl (by first | assumption | rfl | (simp; done))) rfl rfl ?_; clear hf; clear a; intro a hf
    refine q_off hf (goff rfl rfl rfl (by first | assumption | rfl | (simp; done))) rfl rfl ?_; clear hf; clear a; intro a hf
    refine q_v hf (yv_pick_t rfl (by first | assumption | rfl | (simp; done)) rfl) (.inl rfl) rfl rfl ?_; clear hf; clear a; intro a hf
    refine q_v hf (yv_move rfl) (.inl rfl) rfl rfl ?_; clear hf; clear a; intro a hf
    refine q_off hf (goff rfl rfl rfl (by first | assumption | rfl | (simp; done))) rfl rfl ?_; clear hf; clear a; intro a hf
    refine q_off hf (goff rfl rfl rfl (by first | assumption | rfl | (simp; done))) rfl rfl ?_; clear hf; clear a; intro a hf
    refine q_off hf (goff rfl rfl rfl (by first | assumption | rfl | (simp; done))) rfl rfl ?_; clear hf; clear a; intro a hf
    refine q_off hf (goff rfl rfl rfl (by first | assumption | rfl | (simp; done))) rfl rfl ?_; clear hf; clear a; intro a hf
    refine q_v hf (yv_pick_t rfl (by first | assumption | rfl | (simp; done)) rfl) (.inl rfl) rfl rfl ?_; clear hf; clear a; intro a hf
    refine q_v hf (yv_move rfl) (.inl rfl) rfl rfl ?_; clear hf; clear a; intro a hf
    refine q_off hf (goff rfl rfl rfl (by first | assumption | rfl | (simp; done))) rfl rfl ?_; clear hf; clear a; intro a hf
    refine q_off hf (goff rfl rfl rfl (by first | assumption | rfl | (simp; done))) rfl rfl ?_; clear hf; clear a; intro a hf
    refine q_off hf (goff rfl rfl rfl (by first | assumption | rfl | (simp; done))) rfl rfl ?_; clear hf; clear a; intro a hf
    refine q_off hf (goff rfl rfl rfl (by first | assumption | rfl | (simp; done))) rfl rfl ?_; clear hf; clear a; intro a hf
    refine q_v hf (yv_pick_t rfl (by first | assumption | rfl | (simp; done)) rfl) (.inl rfl) rfl rfl ?_; clear hf; clear a; intro a hf
    refine q_end fun w hh => ?_
    refine then_n ?_
    refine sy_ct hf rfl (by first | assumption | rfl | (simp; done)) ?_
    refine sy_seq ?_
    refine sy_ops ?_
    refine ops_v hf hh (yv_assign rfl) (.inl rfl) rfl rfl rfl ?_; clear hf; clear a; intro a hf
    refine ops_end ?_
    refine then_n ?_
    refine sy_ret ?_
    refine then_r ?_
    refine ret_r hf rfl rfl ?_
    refine ⟨congrArg Value.bool ?_, hh.ext⟩
    first
      | (refine okBar_no fun hV => ?_
         have h1 := hV.s1; have h2 := hV.s2; have h3 := hV.p1; have h4 := hV.p2; have h5 := hV.k1; have h6 := hV.k2; have h7 := hV.m1; have h8 := hV.m2; have h9 := hV.n
         have h10 := hpw h1 h2
         omega)
      | (refine okBar_no fun hV => ?_
         have hO := hV.sc s hms
         have h1 := hO.l1; have h2 := hO.l2; have h3 := hO.m1; have h4 := hO.m2; have h5 := hO.c1; have h6 := hO.c2
         omega)
      | (exact okBar_yes ⟨by omega, by omega, by omega, by omega, by omega, by omega, by omega, by omega, by omega, fun s hs => by
           obtain ⟨j, hj⟩ := List.getElem?_of_mem hs
           exact hq2 j s (by have := len_of hj; omega) hj⟩)
  · have hG2 := hg2; try simp only [gS] at hG2
    refine q_v hf (yv_fieldAddr Tryz.fo_24_1 rfl) (gon rfl rfl rfl (by first | assumption | rfl | (simp; done))) rfl rfl ?_; clear hf; clear a; intro a hf
    refine q_v hf (yv_load Tryz.sc_3 rfl (fun _ h => by first | exact h.at (i := 0) rfl | exact h.at (i := 1) rfl | exact h.at (i := 2) rfl | exact h.at (i := 3) rfl | exact h.old hb) (by first | rfl | assumption)) (gon rfl rfl rfl (by first | assumption | rfl | (simp; done))) rfl rfl ?_; clear hf; clear a; intro a hf
    refine q_callE hf Tryz.en_26 rfl rfl rfl (gon rfl rfl rfl (by first | assumption | rfl | (simp; done))) rfl (fun w hh => c44 _ _ _ _) ?_; clear hf; clear a; intro a hf
    refine q_v hf (yv_not rfl) (gon rfl rfl rfl (by first | assumption | rfl | (simp; done))) rfl rfl ?_; clear hf; clear a; intro a hf
    refine q_v hf (yv_pick_f rfl (by first | assumption | rfl | (simp; done)) rfl) (.inl rfl) rfl rfl ?_; clear hf; clear a; intro a hf
    refine q_v hf (yv_move rfl) (.inl rfl) rfl rfl ?_; clear hf; clear a; intro a hf
    refine guard_splitq hf (t := 15) rfl (fun hg4 => ?_) (fun hg4 => ?_)
    · have hG4 := hg4; try simp only [gS] at hG4
      refine q_off hf (goff rfl rfl rfl (by first | assumption | rfl | (simp; done))) rfl rfl ?_; clear hf; clear a; intro a hf
      refine q_off hf (goff rfl rfl rfl (by first | assumption | rfl | (simp; done))) rfl rfl ?_; clear hf; clear a; intro a hf
      refine q_off hf (goff rfl rfl rfl (by first | assumption | rfl | (simp; done))) rfl rfl ?_; clear hf; clear a; intro a hf
      refine q_off hf (goff rfl rfl rfl (by first | assumption | rfl | (simp; done))) rfl rfl ?_; clear hf; clear a; intro a hf
      refine q_off hf (goff rfl rfl rfl (by first | assumption | rfl | (simp; done))) rfl rfl ?_; clear hf; clear a; intro a hf
      refine q_off hf (goff rfl rfl rfl (by first | assumption | rfl | (simp; done))) rfl rfl ?_; clear hf; clear a; intro a hf
      refine q_off hf (goff rfl rfl rfl (by first | assumption | rfl | (simp; done))) rfl rfl ?_; clear hf; clear a; intro a hf
      refine q_off hf (goff rfl rfl rfl (by first | assumption | rfl | (simp; done))) rfl rfl ?_; clear hf; clear a; intro a hf
      refine q_v hf (yv_pick_t rfl (by first | assumption | rfl | (simp; done)) rfl) (.inl rfl) rfl rfl ?_; clear hf; clear a; intro a hf
      refine q_v hf (yv_move rfl) (.inl rfl) rfl rfl ?_; clear hf; clear a; intro a hf
      refine q_off hf (goff rfl rfl rfl (by first | assumption | rfl | (simp; done))) rfl rfl ?_; clear hf; clear a; intro a hf
      refine q_off hf (goff rfl rfl rfl (by first | assumption | rfl | (simp; done))) rfl rfl ?_; clear hf; clear a; intro a hf
      refine q_off hf (goff rfl rfl rfl (by first | assumption | rfl | (simp; done))) rfl rfl ?_; clear hf; clear a; intro a hf
      refine q_off hf (goff rfl rfl rfl (by first | assumption | rfl | (simp; done))) rfl rfl ?_; clear hf; clear a; intro a hf
      refine q_v hf (yv_pick_t rfl (by first | assumption | rfl | (simp; done)) rfl) (.inl rfl) rfl rfl ?_; clear hf; clear a; intro a hf
      refine q_v hf (yv_move rfl) (.inl rfl) rfl rfl ?_; clear hf; clear a; intro a hf
      refine q_off hf (goff rfl rfl rfl (by first | assumption | rfl | (simp; done))) rfl rfl ?_; clear hf; clear a; intro a hf
      refine q_off hf (goff rfl rfl rfl (by first | assumption | rfl | (simp; done))) rfl rfl ?_; clear hf; clear a; intro a hf
      refine q_off hf (goff rfl rfl rfl (by first | assumption | rfl | (simp; done))) rfl rfl ?_; clear hf; clear a; intro a hf
      refine q_off hf (goff rfl rfl rfl (by first | assumption | rfl | (simp; done))) rfl rfl ?_; clear hf; clear a; intro a hf
      refine q_v hf (yv_pick_t rfl (by first | assumption | rfl | (simp; done)) rfl) (.inl rfl) rfl rfl ?_; clear hf; clear a; intro a hf
      refine q_end fun w hh => ?_
      refine then_n ?_
      refine sy_ct hf rfl (by first | assumption | rfl | (simp; done)) ?_
      refine sy_seq ?_
      refine sy_ops ?_
      refine ops_v hf hh (yv_assign rfl) (.inl rfl) rfl rfl rfl ?_; clear hf; clear a; intro a hf
      refine ops_end ?_
      refine then_n ?_
      refine sy_ret ?_
      refine then_r ?_
      refine ret_r hf rfl rfl ?_
      refine ⟨congrArg Value.bool ?_, hh.ext⟩
      first
        | (refine okBar_no fun hV => ?_
           have h1 := hV.s1; have h2 := hV.s2; have h3 := hV.p1; have h4 := hV.p2; have h5 := hV.k1; have h6 := hV.k2; have h7 := hV.m1; have h8 := hV.m2; have h9 := hV.n
           have h10 := hpw h1 h2
           omega)
        | (refine okBar_no fun hV => ?_
           have hO := hV.sc s hms
           have h1 := hO.l1; have h2 := hO.l2; have h3 := hO.m1; have h4 := hO.m2; have h5 := hO.c1; have h6 := hO.c2
           omega)
        | (exact okBar_yes ⟨by omega, by omega, by omega, by omega, by omega, by omega, by omega, by omega, by omega, fun s hs => by
             obtain ⟨j, hj⟩ := List.getElem?_of_mem hs
             exact hq2 j s (by have := len_of hj; omega) hj⟩)
    · have hG4 := hg4; try simp only [gS] at hG4
      refine q_v hf (yv_fieldAddr Tryz.fo_24_2 rfl) (gon rfl rfl rfl (by first | assumption | rfl | (simp; done))) rfl rfl ?_; clear hf; clear a; intro a hf
      refine q_v hf (yv_load Tryz.sc_3 rfl (fun _ h => by first | exact h.at (i := 0) rfl | exact h.at (i := 1) rfl | exact h.at (i := 2) rfl | exact h.at (i := 3) rfl | exact h.old hb) (by first | rfl | assumption)) (gon rfl rfl rfl (by first | assumption | rfl | (simp; done))) rfl rfl ?_; clear hf; clear a; intro a hf
      refine q_v hf (yv_fieldAddr Tryz.fo_24_0 rfl) (gon rfl rfl rfl (by first | assumption | rfl | (simp; done))) rfl rfl ?_; clear hf; clear a; intro a hf
      refine q_v hf (yv_load Tryz.sc_3 rfl (fun _ h => by first | exact h.at (i := 0) rfl | exact h.at (i := 1) rfl | exact h.at (i := 2) rfl | exact h.at (i := 3) rfl | exact h.old hb) (by first | rfl | assumption)) (gon rfl rfl rfl (by first | assumption | rfl | (simp; done))) rfl rfl ?_; clear hf; clear a; intro a hf
      refine q_callE hf Tryz.en_27 rfl rfl rfl (gon rfl rfl rfl (by first | assumption | rfl | (simp; done))) rfl (fun w hh => c56 _ (by omega) (by omega) _) ?_; clear hf; clear a; intro a hf
      first | refine q_v hf (yv_sub rfl rfl (by omega) (by omega)) (gon rfl rfl rfl (by first | assumption | rfl | (simp; done))) rfl rfl ?_; clear hf; clear a; intro a hf | refine q_v hf (yv_bin rfl rfl rfl) (gon rfl rfl rfl (by first | assumption | rfl | (simp; done))) rfl rfl ?_; clear hf; clear a; intro a hf
      refine q_callE hf Tryz.en_26 rfl rfl rfl (gon rfl rfl rfl (by first | assumption | rfl | (simp; done))) rfl (fun w hh => c44 _ _ _ _) ?_; clear hf; clear a; intro a hf
      refine q_v hf (yv_not rfl) (gon rfl rfl rfl (by first | assumption | rfl | (simp; done))) rfl rfl ?_; clear hf; clear a; intro a hf
      refine q_v hf (yv_pick_f rfl (by first | assumption | rfl | (simp; done)) rfl) (.inl rfl) rfl rfl ?_; clear hf; clear a; intro a hf
      refine q_v hf (yv_move rfl) (.inl rfl) rfl rfl ?_; clear hf; clear a; intro a hf
      refine guard_splitq hf (t := 25) rfl (fun hg7 => ?_) (fun hg7 => ?_)
      · have hG7 := hg7; try simp only [gS] at hG7
        refine q_off hf (goff rfl rfl rfl (by first | assumption | rfl | (simp; done))) rfl rfl ?_; clear hf; clear a; intro a hf
        refine q_off hf (goff rfl rfl rfl (by first | assumption | rfl | (simp; done))) rfl rfl ?_; clear hf; clear a; intro a hf
        refine q_off hf (goff rfl rfl rfl (by first | assumption | rfl | (simp; done))) rfl rfl ?_; clear hf; clear a; intro a hf
        refine q_off hf (goff rfl rfl rfl (by first | assumption | rfl | (simp; done))) rfl rfl ?_; clear hf; clear a; intro a hf
        refine q_v hf (yv_pick_t rfl (by first | assumption | rfl | (simp; done)) rfl) (.inl rfl) rfl rfl ?_; clear hf; clear a; intro a hf
        refine q_v hf (yv_move rfl) (.inl rfl) rfl rfl ?_; clear hf; clear a; intro a hf
        refine q_off hf (goff rfl rfl rfl (by first | assumption | rfl | (simp; done))) rfl rfl ?_; clear hf; clear a; intro a hf
        refine q_off hf (goff rfl rfl rfl (by first | assumption | rfl | (simp; done))) rfl rfl ?_; clear hf; clear a; intro a hf
        refine q_off hf (goff rfl rfl rfl (by first | assumption | rfl | (simp; done))) rfl rfl ?_; clear hf; clear a; intro a hf
        refine q_off hf (goff rfl rfl rfl (by first | assumption | rfl | (simp; done))) rfl rfl ?_; clear hf; clear a; intro a hf
        refine q_v hf (yv_pick_t rfl (by first | assumption | rfl | (simp; done)) rfl) (.inl rfl) rfl rfl ?_; clear hf; clear a; intro a hf
        refine q_end fun w hh => ?_
        refine then_n ?_
        refine sy_ct hf rfl (by first | assumption | rfl | (simp; done)) ?_
        refine sy_seq ?_
        refine sy_ops ?_
        refine ops_v hf hh (yv_assign rfl) (.inl rfl) rfl rfl rfl ?_; clear hf; clear a; intro a hf
        refine ops_end ?_
        refine then_n ?_
        refine sy_ret ?_
        refine then_r ?_
        refine ret_r hf rfl rfl ?_
        refine ⟨congrArg Value.bool ?_, hh.ext⟩
        first
          | (refine okBar_no fun hV => ?_
             have h1 := hV.s1; have h2 := hV.s2; have h3 := hV.p1; have h4 := hV.p2; have h5 := hV.k1; have h6 := hV.k2; have h7 := hV.m1; have h8 := hV.m2; have h9 := hV.n
             have h10 := hpw h1 h2
             omega)
          | (refine okBar_no fun hV => ?_
             have hO := hV.sc s hms
             have h1 := hO.l1; have h2 := hO.l2; have h3 := hO.m1; have h4 := hO.m2; have h5 := hO.c1; have h6 := hO.c2
             omega)
          | (exact okBar_yes ⟨by omega, by omega, by omega, by omega, by omega, by omega, by omega, by omega, by omega, fun s hs => by
               obtain ⟨j, hj⟩ := List.getElem?_of_mem hs
               exact hq2 j s (by have := len_of hj; omega) hj⟩)
      · have hG7 := hg7; try simp only [gS] at hG7
        refine q_v hf (yv_fieldAddr Tryz.fo_24_3 rfl) (gon rfl rfl rfl (by first | assumption | rfl | (simp; done))) rfl rfl ?_; clear hf; clear a; intro a hf
        refine q_v hf (yv_load Tryz.sc_3 rfl (fun _ h => by first | exact h.at (i := 0) rfl | exact h.at (i := 1) rfl | exact h.at (i := 2) rfl | exact h.at (i := 3) rfl | exact h.old hb) (by first | rfl | assumption)) (gon rfl rfl rfl (by first | assumption | rfl | (simp; done))) rfl rfl ?_; clear hf; clear a; intro a hf
        refine q_callE hf Tryz.en_26 rfl rfl rfl (gon rfl rfl rfl (by first | assumption | rfl | (simp; done))) rfl (fun w hh => c44 _ _ _ _) ?_; clear hf; clear a; intro a hf
        refine q_v hf (yv_not rfl) (gon rfl rfl rfl (by first | assumption | rfl | (simp; done))) rfl rfl ?_; clear hf; clear a; intro a hf
        refine q_v hf (yv_pick_f rfl (by first | assumption | rfl | (simp; done)) rfl) (.inl rfl) rfl rfl ?_; clear hf; clear a; intro a hf
        refine q_v hf (yv_move rfl) (.inl rfl) rfl rfl ?_; clear hf; clear a; intro a hf
        refine guard_splitq hf (t := 31) rfl (fun hg9 => ?_) (fun hg9 => ?_)
        · have hG9 := hg9; try simp only [gS] at hG9
          refine q_off hf (goff rfl rfl rfl (by first | assumption | rfl | (simp; done))) rfl rfl ?_; clear hf; clear a; intro a hf
          refine q_off hf (goff rfl rfl rfl (by first | assumption | rfl | (simp; done))) rfl rfl ?_; clear hf; clear a; intro a hf
          refine q_off hf (goff rfl rfl rfl (by first | assumption | rfl | (simp; done))) rfl rfl ?_; clear hf; clear a; intro a hf
          refine q_off hf (goff rfl rfl rfl (by first | assumption | rfl | (simp; done))) rfl rfl ?_; clear hf; clear a; intro a hf
          refine q_v hf (yv_pick_t rfl (by first | assumption | rfl | (simp; done)) rfl) (.inl rfl) rfl rfl ?_; clear hf; clear a; intro a hf
          refine q_end fun w hh => ?_
          refine then_n ?_
          refine sy_ct hf rfl (by first | assumption | rfl | (simp; done)) ?_
          refine sy_seq ?_
          refine sy_ops ?_
          refine ops_v hf hh (yv_assign rfl) (.inl rfl) rfl rfl rfl ?_; clear hf; clear a; intro a hf
          refine ops_end ?_
          refine then_n ?_
          refine sy_ret ?_
          refine then_r ?_
          refine ret_r hf rfl rfl ?_
          refine ⟨congrArg Value.bool ?_, hh.ext⟩
          first
            | (refine okBar_no fun hV => ?_
               have h1 := hV.s1; have h2 := hV.s2; have h3 := hV.p1; have h4 := hV.p2; have h5 := hV.k1; have h6 := hV.k2; have h7 := hV.m1; have h8 := hV.m2; have h9 := hV.n
               have h10 := hpw h1 h2
               omega)
            | (refine okBar_no fun hV => ?_
               have hO := hV.sc s hms
               have h1 := hO.l1; have h2 := hO.l2; have h3 := hO.m1; have h4 := hO.m2; have h5 := hO.c1; have h6 := hO.c2
               omega)
            | (exact okBar_yes ⟨by omega, by omega, by omega, by omega, by omega, by omega, by omega, by omega, by omega, fun s hs => by
                 obtain ⟨j, hj⟩ := List.getElem?_of_mem hs
                 exact hq2 j s (by have := len_of hj; omega) hj⟩)
        · have hG9 := hg9; try simp only [gS] at hG9
          refine q_v hf (yv_fieldAddr Tryz.fo_24_4 rfl) (gon rfl rfl rfl (by first | assumption | rfl | (simp; done))) rfl rfl ?_; clear hf; clear a; intro a hf
          refine q_v hf (yv_load Tryz.sc_22 rfl (fun _ h => by first | exact h.at (i := 0) rfl | exact h.at (i := 1) rfl | exact h.at (i := 2) rfl | exact h.at (i := 3) rfl | exact h.old hb) (by first | rfl | assumption)) (gon rfl rfl rfl (by first | assumption | rfl | (simp; done))) rfl rfl ?_; clear hf; clear a; intro a hf
          refine q_v hf (yv_len Tryz.se_22 rfl) (gon rfl rfl rfl (by first | assumption | rfl | (simp; done))) rfl rfl ?_; clear hf; clear a; intro a hf
          refine q_v hf (yv_bin rfl rfl rfl) (gon rfl rfl rfl (by first | assumption | rfl | (simp; done))) rfl rfl ?_; clear hf; clear a; intro a hf
          refine q_v hf (yv_pick_f rfl (by first | assumption | rfl | (simp; done)) rfl) (.inl rfl) rfl rfl ?_; clear hf; clear a; intro a hf
          refine q_end fun w hh => ?_
          refine then_n ?_
          refine sy_cond hf rfl (fun hg11 => ?_) (fun hg11 => ?_)
          · have hG11 := hg11; try simp only [gS] at hG11
            refine sy_seq ?_
            refine sy_ops ?_
            refine ops_v hf hh (yv_assign rfl) (.inl rfl) rfl rfl rfl ?_; clear hf; clear a; intro a hf
            refine ops_end ?_
            refine then_n ?_
            refine sy_ret ?_
            refine then_r ?_
            refine ret_r hf rfl rfl ?_
            refine ⟨congrArg Value.bool ?_, hh.ext⟩
            first
              | (refine okBar_no fun hV => ?_
                 have h1 := hV.s1; have h2 := hV.s2; have h3 := hV.p1; have h4 := hV.p2; have h5 := hV.k1; have h6 := hV.k2; have h7 := hV.m1; have h8 := hV.m2; have h9 := hV.n
                 have h10 := hpw h1 h2
                 omega)
              | (refine okBar_no fun hV => ?_
                 have hO := hV.sc s hms
                 have h1 := hO.l1; have h2 := hO.l2; have h3 := hO.m1; have h4 := hO.m2; have h5 := hO.c1; have h6 := hO.c2
                 omega)
              | (exact okBar_yes ⟨by omega, by omega, by omega, by omega, by omega, by omega, by omega, by omega, by omega, fun s hs => by
                   obtain ⟨j, hj⟩ := List.getElem?_of_mem hs
                   exact hq2 j s (by have := len_of hj; omega) hj⟩)
          · have hG11 := hg11; try simp only [gS] at hG11
            refine sy_skip ?_
            refine then_n ?_
            refine sy_seq ?_
            refine sy_seq ?_
            refine sy_ops ?_
            refine ops_v hf hh (yv_assign rfl) (.inl rfl) rfl rfl rfl ?_; clear hf; clear a; intro a hf
            refine ops_end ?_
            refine then_n ?_
            refine sy_block ?_
            refine sy_loopF (σ := Nat) [2, 3, 4, 37, 38, 39, 40, 41, 42, 43, 44, 45, 46, 47, 48, 49, 50, 51, 52, 53, 54, 55, 56, 57, 58, 59, 60, 61, 62, 63, 64, 65, 66] (fun k => [(3, .int .i64 k)]) (fun k => k ≤ b.scenes.length ∧ ∀ j s, j < k → b.scenes[j]? = some s → OkS s) (fun k => b.scenes.length - k) (0) hf hh ?_ ?_ ?_
            · repeat' (first | exact True.intro | refine And.intro rfl ?_)
            · exact ⟨by omega, fun j s hj => by omega⟩
            · rintro k a w ⟨hq1, hq2⟩ hf hh
              refine sy_seq ?_
              refine sy_seq ?_
              refine sy_ops ?_
              refine ops_v hf hh (yv_move rfl) (.inl rfl) rfl rfl rfl ?_; clear hf; clear a; intro a hf
              refine ops_v hf hh (yv_fieldAddr Tryz.fo_24_4 rfl) (.inl rfl) rfl rfl rfl ?_; clear hf; clear a; intro a hf
              refine ops_v hf hh (yv_load Tryz.sc_22 rfl (fun _ h => by first | exact h.at (i := 0) rfl | exact h.at (i := 1) rfl | exact h.at (i := 2) rfl | exact h.at (i := 3) rfl | exact h.old hb) (by first | rfl | assumption)) (.inl rfl) rfl rfl rfl ?_; clear hf; clear a; intro a hf
              refine ops_v hf hh (yv_len Tryz.se_22 rfl) (.inl rfl) rfl rfl rfl ?_; clear hf; clear a; intro a hf
              refine ops_v hf hh (yv_bin rfl rfl rfl) (.inl rfl) rfl rfl rfl ?_; clear hf; clear a; intro a hf
              refine ops_end ?_
              refine then_n ?_
              refine sy_cond hf rfl (fun hg13 => ?_) (fun hg13 => ?_)
              · have hG13 := hg13; try simp only [gS] at hG13
                refine sy_skip ?_
                refine then_n ?_
                refine sy_seq ?_
                refine sy_block ?_
                refine sy_seq ?_
                obtain ⟨s, hs⟩ := scn_of (l := b.scenes) (i := k) (by omega)
                have hms := List.mem_of_getElem? hs
                obtain ⟨blk, off, c, T, fr, e, hb, hc⟩ := hS k s hs; cases e
                refine sy_ops ?_
                refine ops_v hf hh (yv_fieldAddr Tryz.fo_24_4 rfl) (.inl rfl) rfl rfl rfl ?_; clear hf; clear a; intro a hf
                refine ops_v hf hh (yv_load Tryz.sc_22 rfl (fun _ h => by first | exact h.at (i := 0) rfl | exact h.at (i := 1) rfl | exact h.at (i := 2) rfl | exact h.at (i := 3) rfl | exact h.old hb) (by first | rfl | assumption)) (.inl rfl) rfl rfl rfl ?_; clear hf; clear a; intro a hf
                refine ops_v hf hh (yv_move rfl) (.inl rfl) rfl rfl rfl ?_; clear hf; clear a; intro a hf
                refine ops_v hf hh (yv_indexAddr Tryz.se_22 rfl rfl (by omega) (by omega)) (.inl rfl) rfl rfl rfl ?_; clear hf; clear a; intro a hf
                refine ops_v hf hh (yv_loads Tryz.ag_33 rfl (fun _ h => by first | exact h.at (i := 0) rfl | exact h.at (i := 1) rfl | exact h.at (i := 2) rfl | exact h.at (i := 3) rfl | exact h.old hb) (by first | assumption | rfl)) (.inl rfl) rfl rfl rfl ?_; clear hf; clear a; intro a hf
                refine ops_alloc hf hh Tryz.ze_33 (.inl rfl) rfl ?_; clear hf hh; clear a; intro B4 a w hf hh
                first | refine ops_store (i := 0) hf hh rfl rfl rfl Tryz.sz_33 rfl rfl rfl (.inl rfl) fun w hh => ?_ | refine ops_store (i := 1) hf hh rfl rfl rfl Tryz.sz_33 rfl rfl rfl (.inl rfl) fun w hh => ?_ | refine ops_store (i := 2) hf hh rfl rfl rfl Tryz.sz_33 rfl rfl rfl (.inl rfl) fun w hh => ?_ | refine ops_store (i := 3) hf hh rfl rfl rfl Tryz.sz_33 rfl rfl rfl (.inl rfl) fun w hh => ?_
                refine ops_end ?_
                refine then_n ?_
                refine sy_seq ?_
                refine sy_ops ?_
                refine ops_v hf hh (yv_fieldAddr Tryz.fo_33_0 rfl) (.inl rfl) rfl rfl rfl ?_; clear hf; clear a; intro a hf
                refine ops_v hf hh (yv_load Tryz.sc_3 rfl (fun _ h => by first | exact h.at (i := 0) rfl | exact h.at (i := 1) rfl | exact h.at (i := 2) rfl | exact h.at (i := 3) rfl | exact h.old hb) (by first | rfl | assumption)) (.inl rfl) rfl rfl rfl ?_; clear hf; clear a; intro a hf
                refine ops_call hf Tryz.en_26 rfl rfl rfl (.inl rfl) rfl (c44 _ _ _ _) ?_; clear hf; clear a; intro v a w hR hf
                obtain ⟨rfl, hx⟩ := hR; replace hh := hh.more hx; clear hx
                refine ops_v hf hh (yv_not rfl) (.inl rfl) rfl rfl rfl ?_; clear hf; clear a; intro a hf
                refine ops_v hf hh (yv_move rfl) (.inl rfl) rfl rfl rfl ?_; clear hf; clear a; intro a hf
                refine guard_split hf (t := 53) rfl (fun hg15 => ?_) (fun hg15 => ?_)
                · have hG15 := hg15; try simp only [gS] at hG15
                  refine ops_off hf (goff rfl rfl rfl (by first | assumption | rfl | (simp; done))) rfl rfl ?_; clear hf; clear a; intro a hf
                  refine ops_off hf (goff rfl rfl rfl (by first | assumption | rfl | (simp; done))) rfl rfl ?_; clear hf; clear a; intro a hf
                  refine ops_off hf (goff rfl rfl rfl (by first | assumption | rfl | (simp; done))) rfl rfl ?_; clear hf; clear a; intro a hf
                  refine ops_off hf (goff rfl rfl rfl (by first | assumption | rfl | (simp; done))) rfl rfl ?_; clear hf; clear a; intro a hf
                  refine ops_off hf (goff rfl rfl rfl (by first | assumption | rfl | (simp; done))) rfl rfl ?_; clear hf; clear a; intro a hf
                  refine ops_off hf (goff rfl rfl rfl (by first | assumption | rfl | (simp; done))) rfl rfl ?_; clear hf; clear a; intro a hf
                  refine ops_v hf hh (yv_pick_t rfl (by first | assumption | rfl | (simp; done)) rfl) (.inl rfl) rfl rfl rfl ?_; clear hf; clear a; intro a hf
                  refine ops_v hf hh (yv_move rfl) (.inl rfl) rfl rfl rfl ?_; clear hf; clear a; intro a hf
                  refine ops_off hf (goff rfl rfl rfl (by first | assumption | rfl | (simp; done))) rfl rfl ?_; clear hf; clear a; intro a hf
                  refine ops_off hf (goff rfl rfl rfl (by first | assumption | rfl | (simp; done))) rfl rfl ?_; clear hf; clear a; intro a hf
                  refine ops_off hf (goff rfl rfl rfl (by first | assumption | rfl | (simp; done))) rfl rfl ?_; clear hf; clear a; intro a hf
                  refine ops_off hf (goff rfl rfl rfl (by first | assumption | rfl | (simp; done))) rfl rfl ?_; clear hf; clear a; intro a hf
                  refine ops_v hf hh (yv_pick_t rfl (by first | assumption | rfl | (simp; done)) rfl) (.inl rfl) rfl rfl rfl ?_; clear hf; clear a; intro a hf
                  refine ops_end ?_
                  refine then_n ?_
                  refine sy_ct hf rfl (by first | assumption | rfl | (simp; done)) ?_
                  refine sy_seq ?_
                  refine sy_ops ?_
                  refine ops_v hf hh (yv_assign rfl) (.inl rfl) rfl rfl rfl ?_; clear hf; clear a; intro a hf
                  refine ops_end ?_
                  refine then_n ?_
                  refine sy_ret ?_
                  refine blk_r ?_
                  refine then_r ?_
                  refine then_r ?_
                  refine blk_r ?_
                  refine then_r ?_
                  refine ret_r hf rfl rfl ?_
                  refine ⟨congrArg Value.bool ?_, hh.ext⟩
                  first
                    | (refine okBar_no fun hV => ?_
                       have h1 := hV.s1; have h2 := hV.s2; have h3 := hV.p1; have h4 := hV.p2; have h5 := hV.k1; have h6 := hV.k2; have h7 := hV.m1; have h8 := hV.m2; have h9 := hV.n
                       have h10 := hpw h1 h2
                       omega)
                    | (refine okBar_no fun hV => ?_
                       have hO := hV.sc s hms
                       have h1 := hO.l1; have h2 := hO.l2; have h3 := hO.m1; have h4 := hO.m2; have h5 := hO.c1; have h6 := hO.c2
                       omega)
                    | (exact okBar_yes ⟨by omega, by omega, by omega, by omega, by omega, by omega, by omega, by omega, by omega, fun s hs => by
                         obtain ⟨j, hj⟩ := List.getElem?_of_mem hs
                         exact hq2 j s (by have := len_of hj; omega) hj⟩)
                · have hG15 := hg15; try simp only [gS] at hG15
                  refine ops_v hf hh (yv_fieldAddr Tryz.fo_33_1 rfl) (gon rfl rfl rfl (by first | assumption | rfl | (simp; done))) rfl rfl rfl ?_; clear hf; clear a; intro a hf
                  refine ops_v hf hh (yv_load Tryz.sc_3 rfl (fun _ h => by first | exact h.at (i := 0) rfl | exact h.at (i := 1) rfl | exact h.at (i := 2) rfl | exact h.at (i := 3) rfl | exact h.old hb) (by first | rfl | assumption)) (gon rfl rfl rfl (by first | assumption | rfl | (simp; done))) rfl rfl rfl ?_; clear hf; clear a; intro a hf
                  refine ops_v hf hh (yv_fieldAddr Tryz.fo_33_0 rfl) (gon rfl rfl rfl (by first | assumption | rfl | (simp; done))) rfl rfl rfl ?_; clear hf; clear a; intro a hf
                  refine ops_v hf hh (yv_load Tryz.sc_3 rfl (fun _ h => by first | exact h.at (i := 0) rfl | exact h.at (i := 1) rfl | exact h.at (i := 2) rfl | exact h.at (i := 3) rfl | exact h.old hb) (by first | rfl | assumption)) (gon rfl rfl rfl (by first | assumption | rfl | (simp; done))) rfl rfl rfl ?_; clear hf; clear a; intro a hf
                  refine ops_call hf Tryz.en_26 rfl rfl rfl (gon rfl rfl rfl (by first | assumption | rfl | (simp; done))) rfl (c44 _ _ _ _) ?_; clear hf; clear a; intro v a w hR hf
                  obtain ⟨rfl, hx⟩ := hR; replace hh := hh.more hx; clear hx
                  refine ops_v hf hh (yv_not rfl) (gon rfl rfl rfl (by first | assumption | rfl | (simp; done))) rfl rfl rfl ?_; clear hf; clear a; intro a hf
                  refine ops_v hf hh (yv_pick_f rfl (by first | assumption | rfl | (simp; done)) rfl) (.inl rfl) rfl rfl rfl ?_; clear hf; clear a; intro a hf
                  refine ops_v hf hh (yv_move rfl) (.inl rfl) rfl rfl rfl ?_; clear hf; clear a; intro a hf
                  refine guard_split hf (t := 61) rfl (fun hg17 => ?_) (fun hg17 => ?_)
                  · have hG17 := hg17; try simp only [gS] at hG17
                    refine ops_off hf (goff rfl rfl rfl (by first | assumption | rfl | (simp; done))) rfl rfl ?_; clear hf; clear a; intro a hf
                    refine ops_off hf (goff rfl rfl rfl (by first | assumption | rfl | (simp; done))) rfl rfl ?_; clear hf; clear a; intro a hf
                    refine ops_off hf (goff rfl rfl rfl (by first | assumption | rfl | (simp; done))) rfl rfl ?_; clear hf; clear a; intro a hf
                    refine ops_off hf (goff rfl rfl rfl (by first | assumption | rfl | (simp; done))) rfl rfl ?_; clear hf; clear a; intro a hf
                    refine ops_v hf hh (yv_pick_t rfl (by first | assumption | rfl | (simp; done)) rfl) (.inl rfl) rfl rfl rfl ?_; clear hf; clear a; intro a hf
                    refine ops_end ?_
                    refine then_n ?_
                    refine sy_ct hf rfl (by first | assumption | rfl | (simp; done)) ?_
                    refine sy_seq ?_
                    refine sy_ops ?_
                    refine ops_v hf hh (yv_assign rfl) (.inl rfl) rfl rfl rfl ?_; clear hf; clear a; intro a hf
                    refine ops_end ?_
                    refine then_n ?_
                    refine sy_ret ?_
                    refine blk_r ?_
                    refine then_r ?_
                    refine then_r ?_
                    refine blk_r ?_
                    refine then_r ?_
                    refine ret_r hf rfl rfl ?_
                    refine ⟨congrArg Value.bool ?_, hh.ext⟩
                    first
                      | (refine okBar_no fun hV => ?_
                         have h1 := hV.s1; have h2 := hV.s2; have h3 := hV.p1; have h4 := hV.p2; have h5 := hV.k1; have h6 := hV.k2; have h7 := hV.m1; have h8 := hV.m2; have h9 := hV.n
                         have h10 := hpw h1 h2
                         omega)
                      | (refine okBar_no fun hV => ?_
                         have hO := hV.sc s hms
                         have h1 := hO.l1; have h2 := hO.l2; have h3 := hO.m1; have h4 := hO.m2; have h5 := hO.c1; have h6 := hO.c2
                         omega)
                      | (exact okBar_yes ⟨by omega, by omega, by omega, by omega, by omega, by omega, by omega, by omega, by omega, fun s hs => by
                           obtain ⟨j, hj⟩ := List.getElem?_of_mem hs
                           exact hq2 j s (by have := len_of hj; omega) hj⟩)
                  · have hG17 := hg17; try simp only [gS] at hG17
                    refine ops_v hf hh (yv_fieldAddr Tryz.fo_33_2 rfl) (gon rfl rfl rfl (by first | assumption | rfl | (simp; done))) rfl rfl rfl ?_; clear hf; clear a; intro a hf
                    refine ops_v hf hh (yv_load Tryz.sc_3 rfl (fun _ h => by first | exact h.at (i := 0) rfl | exact h.at (i := 1) rfl | exact h.at (i := 2) rfl | exact h.at (i := 3) rfl | exact h.old hb) (by first | rfl | assumption)) (gon rfl rfl rfl (by first | assumption | rfl | (simp; done))) rfl rfl rfl ?_; clear hf; clear a; intro a hf
                    refine ops_call hf Tryz.en_26 rfl rfl rfl (gon rfl rfl rfl (by first | assumption | rfl | (simp; done))) rfl (c44 _ _ _ _) ?_; clear hf; clear a; intro v a w hR hf
                    obtain ⟨rfl, hx⟩ := hR; replace hh := hh.more hx; clear hx
                    refine ops_v hf hh (yv_not rfl) (gon rfl rfl rfl (by first | assumption | rfl | (simp; done))) rfl rfl rfl ?_; clear hf; clear a; intro a hf
                    refine ops_v hf hh (yv_pick_f rfl (by first | assumption | rfl | (simp; done)) rfl) (.inl rfl) rfl rfl rfl ?_; clear hf; clear a; intro a hf
                    refine ops_end ?_
                    refine then_n ?_
                    refine sy_cond hf rfl (fun hg19 => ?_) (fun hg19 => ?_)
                    · have hG19 := hg19; try simp only [gS] at hG19
                      refine sy_seq ?_
                      refine sy_ops ?_
                      refine ops_v hf hh (yv_assign rfl) (.inl rfl) rfl rfl rfl ?_; clear hf; clear a; intro a hf
                      refine ops_end ?_
                      refine then_n ?_
                      refine sy_ret ?_
                      refine blk_r ?_
                      refine then_r ?_
                      refine then_r ?_
                      refine blk_r ?_
                      refine then_r ?_
                      refine ret_r hf rfl rfl ?_
                      refine ⟨congrArg Value.bool ?_, hh.ext⟩
                      first
                        | (refine okBar_no fun hV => ?_
                           have h1 := hV.s1; have h2 := hV.s2; have h3 := hV.p1; have h4 := hV.p2; have h5 := hV.k1; have h6 := hV.k2; have h7 := hV.m1; have h8 := hV.m2; have h9 := hV.n
                           have h10 := hpw h1 h2
                           omega)
                        | (refine okBar_no fun hV => ?_
                           have hO := hV.sc s hms
                           have h1 := hO.l1; have h2 := hO.l2; have h3 := hO.m1; have h4 := hO.m2; have h5 := hO.c1; have h6 := hO.c2
                           omega)
                        | (exact okBar_yes ⟨by omega, by omega, by omega, by omega, by omega, by omega, by omega, by omega, by omega, fun s hs => by
                             obtain ⟨j, hj⟩ := List.getElem?_of_mem hs
                             exact hq2 j s (by have := len_of hj; omega) hj⟩)
                    · have hG19 := hg19; try simp only [gS] at hG19
                      refine sy_skip ?_
                      refine blk_n ?_
                      refine then_n ?_
                      refine sy_ops ?_
                      refine ops_v hf hh (yv_move rfl) (.inl rfl) rfl rfl rfl ?_; clear hf; clear a; intro a hf
                      first | refine ops_v hf hh (yv_add rfl rfl (by omega) (by omega)) (.inl rfl) rfl rfl rfl ?_; clear hf; clear a; intro a hf | refine ops_v hf hh (yv_bin rfl rfl rfl) (.inl rfl) rfl rfl rfl ?_; clear hf; clear a; intro a hf
                      refine ops_v hf hh (yv_assign rfl) (.inl rfl) rfl rfl rfl ?_; clear hf; clear a; intro a hf
                      refine ops_end ?_
                      refine then_n ?_
                      refine ⟨k + 1, ⟨⟨by omega, fun j t hj ht => ?_⟩, hf.head ⟨rfl, True.intro⟩ (Keep.cons rfl (Keep.cons rfl (Keep.cons rfl (Keep.cons rfl (Keep.cons rfl (Keep.cons rfl (Keep.cons rfl (Keep.cons rfl (Keep.cons rfl (Keep.cons rfl (Keep.cons rfl (Keep.cons rfl (Keep.cons rfl (Keep.cons rfl (Keep.cons rfl (Keep.cons rfl (Keep.cons rfl (Keep.cons rfl (Keep.cons rfl (Keep.cons rfl (Keep.cons rfl (Keep.cons rfl (Keep.cons rfl (Keep.cons rfl (Keep.cons rfl (Keep.cons rfl (Keep.cons rfl (Keep.cons rfl (Keep.cons rfl (Keep.cons rfl (Keep.cons rfl (Keep.cons rfl (Keep.app rfl (Keep.rm rfl Keep.base)))))))))))))))))))))))))))))))))), hh.less (.cons _ (List.Sublist.refl _))⟩, by omega⟩
                      by_cases hjk : j = k
                      · subst hjk; rw [hs] at ht; cases ht; exact ⟨by omega, by omega, by omega, by omega, by omega, by omega⟩
                      · exact hq2 j t (by omega) ht
              · have hG13 := hg13; try simp only [gS] at hG13
                refine sy_exit ?_
                refine then_e ?_
                refine then_e ?_
                refine blk_e ?_
                refine then_n ?_
                refine sy_seq ?_
                refine sy_ops ?_
                refine ops_v hf hh (yv_assign rfl) (.inl rfl) rfl rfl rfl ?_; clear hf; clear a; intro a hf
                refine ops_end ?_
                refine then_n ?_
                refine sy_ret ?_
                refine ret_r hf rfl rfl ?_
                refine ⟨congrArg Value.bool ?_, hh.ext⟩
                first
                  | (refine okBar_no fun hV => ?_
                     have h1 := hV.s1; have h2 := hV.s2; have h3 := hV.p1; have h4 := hV.p2; have h5 := hV.k1; have h6 := hV.k2; have h7 := hV.m1; have h8 := hV.m2; have h9 := hV.n
                     have h10 := hpw h1 h2
                     omega)
                  | (refine okBar_no fun hV => ?_
                     have hO := hV.sc s hms
                     have h1 := hO.l1; have h2 := hO.l2; have h3 := hO.m1; have h4 := hO.m2; have h5 := hO.c1; have h6 := hO.c2
                     omega)
                  | (exact okBar_yes ⟨by omega, by omega, by omega, by omega, by omega, by omega, by omega, by omega, by omega, fun s hs => by
                       obtain ⟨j, hj⟩ := List.getElem?_of_mem hs
                       exact hq2 j s (by have := len_of hj; omega) hj⟩)
theorem isPlanI_nn {b : BarD} {p : Int} (h : isPlanI b p = true) : 0 ≤ p := by simp [isPlanI] at h; exact h.1
/-- What Best hands back. -/
def bestV (b : BarD) (p i : Int) : Value :=
  if okBar b then
    if isPlanI b p && decide (0 ≤ i) then
      match b.scenes[i.toNat]? with
      | none => .tuple #[.int .i64 0, .int .i64 0, .int .i64 2]
      | some s => match best b p.toNat s with
        | none => .tuple #[.int .i64 0, .int .i64 0, .int .i64 4]
        | some x => .tuple #[.int .i64 x.1, .int .i64 x.2, .int .i64 0]
    else .tuple #[.int .i64 0, .int .i64 0, .int .i64 2]
  else .tuple #[.int .i64 0, .int .i64 0, .int .i64 1]
theorem bestV_arg {b : BarD} {p i : Int} (h : okBar b = false) : bestV b p i = .tuple #[.int .i64 0, .int .i64 0, .int .i64 1] := by simp [bestV, h]
theorem bestV_plan {b : BarD} {p i : Int} (h : okBar b = true) (hp : isPlanI b p = false) : bestV b p i = .tuple #[.int .i64 0, .int .i64 0, .int .i64 2] := by simp [bestV, h, hp]
theorem bestV_scene {b : BarD} {p i : Int} (h : okBar b = true) (hp : isPlanI b p = true) (hi : i < 0 ∨ (b.scenes.length : Int) - 1 < i) : bestV b p i = .tuple #[.int .i64 0, .int .i64 0, .int .i64 2] := by
  by_cases h0 : 0 ≤ i
  · have : b.scenes[i.toNat]? = none := List.getElem?_eq_none (by omega)
    simp [bestV, h, hp, h0, this]
  · simp [bestV, h, hp, h0]
end Go.Proofs.YtccpgpnekoncoaaGreatDoor

namespace Go.Proofs.YtccpgpnekoncoaaGreatDoor
open Go Go.Sy Go.BarM
theorem c40 (n lo hi : Int) (w : World) : Calls Tryz.prog 22 #[.int .i64 n, .int .i64 lo, .int .i64 hi] w (Ret fun v w' => v = .bool (decide (lo ≤ n ∧ n ≤ hi)) ∧ Ext [] w w') := by
  refine calls_of Tryz.func22 rfl rfl (fun a hf => ?_)
  have hh := Hp.init w []
  refine sy_seq ?_
  refine sy_ops ?_
  refine ops_v hf hh (yv_assign rfl) (.inl rfl) rfl rfl rfl ?_; clear hf; clear a; intro a hf
  refine ops_end ?_
  refine then_n ?_
  refine sy_seq ?_
  refine sy_ops ?_
  refine ops_v hf hh (yv_move rfl) (.inl rfl) rfl rfl rfl ?_; clear hf; clear a; intro a hf
  refine ops_v hf hh (yv_move rfl) (.inl rfl) rfl rfl rfl ?_; clear hf; clear a; intro a hf
  refine ops_v hf hh (yv_bin rfl rfl rfl) (.inl rfl) rfl rfl rfl ?_; clear hf; clear a; intro a hf
  refine ops_v hf hh (yv_move rfl) (.inl rfl) rfl rfl rfl ?_; clear hf; clear a; intro a hf
  refine guard_split hf (t := 10) rfl (fun hg2 => ?_) (fun hg2 => ?_)
  · have hG2 := hg2; try simp only [gS] at hG2
    refine ops_v hf hh (yv_move rfl) (gon rfl rfl rfl (by first | assumption | rfl | (simp; done))) rfl rfl rfl ?_; clear hf; clear a; intro a hf
    refine ops_v hf hh (yv_move rfl) (gon rfl rfl rfl (by first | assumption | rfl | (simp; done))) rfl rfl rfl ?_; clear hf; clear a; intro a hf
    refine ops_v hf hh (yv_bin rfl rfl rfl) (gon rfl rfl rfl (by first | assumption | rfl | (simp; done))) rfl rfl rfl ?_; clear hf; clear a; intro a hf
    refine ops_v hf hh (yv_pick_t rfl (by first | assumption | rfl | (simp; done)) rfl) (.inl rfl) rfl rfl rfl ?_; clear hf; clear a; intro a hf
    refine ops_v hf hh (yv_assign rfl) (.inl rfl) rfl rfl rfl ?_; clear hf; clear a; intro a hf
    refine ops_end ?_
    refine then_n ?_
    refine sy_ret ?_
    refine ret_r hf rfl rfl ?_
    refine ⟨?_, hh.ext⟩; simp [tup]; omega
  · have hG2 := hg2; try simp only [gS] at hG2
    refine ops_off hf (goff rfl rfl rfl (by first | assumption | rfl | (simp; done))) rfl rfl ?_; clear hf; clear a; intro a hf
    refine ops_off hf (goff rfl rfl rfl (by first | assumption | rfl | (simp; done))) rfl rfl ?_; clear hf; clear a; intro a hf
    refine ops_off hf (goff rfl rfl rfl (by first | assumption | rfl | (simp; done))) rfl rfl ?_; clear hf; clear a; intro a hf
    refine ops_v hf hh (yv_pick_f rfl (by first | assumption | rfl | (simp; done)) rfl) (.inl rfl) rfl rfl rfl ?_; clear hf; clear a; intro a hf
    refine ops_v hf hh (yv_assign rfl) (.inl rfl) rfl rfl rfl ?_; clear hf; clear a; intro a hf
    refine ops_end ?_
    refine then_n ?_
    refine sy_ret ?_
    refine ret_r hf rfl rfl ?_
    refine ⟨?_, hh.ext⟩; simp [tup]; omega
theorem c72 (x : Nat) (hx : x < 65536) (w : World) : Calls Tryz.prog 114 #[.int .u64 x] w (Ret fun v w' => v = .int .i64 (pc x) ∧ Ext [] w w') := by
  refine calls_of Tryz.func114 rfl rfl (fun a hf => ?_)
  have hh := Hp.init w []
  have k1 := sw1_le x hx; have k2 := sw2_le x hx; have k3 := sw3_le x hx; have k4 := sw4_le x hx; have k5 := sw5_le x hx; have k6 := sw6_le x hx
  have n0 := @Nat.and_le_left (x / 2) 6148914691236517205
  have n1 := @Nat.and_le_left (x) 6148914691236517205
  have n2 := @Nat.and_le_left (sw1 x / 4) 3689348814741910323
  have n3 := @Nat.and_le_left (sw1 x) 3689348814741910323
  refine sy_seq ?_
  refine sy_ops ?_
  refine ops_v hf hh (yv_assign rfl) (.inl rfl) rfl rfl rfl ?_; clear hf; clear a; intro a hf
  refine ops_end ?_
  refine then_n ?_
  refine sy_seq ?_
  refine sy_ops ?_
  refine ops_v hf hh (yv_move rfl) (.inl rfl) rfl rfl rfl ?_; clear hf; clear a; intro a hf
  refine ops_v hf hh (yv_cast (yv_shrx (.inr rfl) rfl rfl (by omega) (by omega) (by omega)) (intv (b := (((x) / 2 : Nat) : Int)) (by simp [Nat.shiftRight_eq_div_pow]))) (.inl rfl) rfl rfl rfl ?_; clear hf; clear a; intro a hf
  refine ops_v hf hh (yv_cast (yv_and (.inr rfl) rfl rfl (by omega) (by simp only [IntKind.top]; omega) (by omega) (by simp only [IntKind.top]; omega)) (intv (b := ((x / 2 &&& 6148914691236517205 : Nat) : Int)) rfl)) (.inl rfl) rfl rfl rfl ?_; clear hf; clear a; intro a hf
  refine ops_v hf hh (yv_move rfl) (.inl rfl) rfl rfl rfl ?_; clear hf; clear a; intro a hf
  refine ops_v hf hh (yv_cast (yv_and (.inr rfl) rfl rfl (by omega) (by simp only [IntKind.top]; omega) (by omega) (by simp only [IntKind.top]; omega)) (intv (b := ((x &&& 6148914691236517205 : Nat) : Int)) rfl)) (.inl rfl) rfl rfl rfl ?_; clear hf; clear a; intro a hf
  first | refine ops_v hf hh (yv_addx (.inr rfl) rfl rfl (by omega) (by simp only [IntKind.top]; omega)) (.inl rfl) rfl rfl rfl ?_; clear hf; clear a; intro a hf | refine ops_v hf hh (yv_bin rfl rfl rfl) (.inl rfl) rfl rfl rfl ?_; clear hf; clear a; intro a hf
  refine ops_v hf hh (yv_cast (yv_assign rfl) (intv (b := ((sw1 x : Nat) : Int)) rfl)) (.inl rfl) rfl rfl rfl ?_; clear hf; clear a; intro a hf
  refine ops_end ?_
  refine then_n ?_
  refine sy_seq ?_
  refine sy_ops ?_
  refine ops_v hf hh (yv_move rfl) (.inl rfl) rfl rfl rfl ?_; clear hf; clear a; intro a hf
  refine ops_v hf hh (yv_cast (yv_shrx (.inr rfl) rfl rfl (by omega) (by omega) (by omega)) (intv (b := ((((sw1 x)) / 4 : Nat) : Int)) (by simp [Nat.shiftRight_eq_div_pow]))) (.inl rfl) rfl rfl rfl ?_; clear hf; clear a; intro a hf
  refine ops_v hf hh (yv_cast (yv_and (.inr rfl) rfl rfl (by omega) (by simp only [IntKind.top]; omega) (by omega) (by simp only [IntKind.top]; omega)) (intv (b := ((sw1 x / 4 &&& 3689348814741910323 : Nat) : Int)) rfl)) (.inl rfl) rfl rfl rfl ?_; clear hf; clear a; intro a hf
  refine ops_v hf hh (yv_move rfl) (.inl rfl) rfl rfl rfl ?_; clear hf; clear a; intro a hf
  refine ops_v hf hh (yv_cast (yv_and (.inr rfl) rfl rfl (by omega) (by simp only [IntKind.top]; omega) (by omega) (by simp only [IntKind.top]; omega)) (intv (b := ((sw1 x &&& 3689348814741910323 : Nat) : Int)) rfl)) (.inl rfl) rfl rfl rfl ?_; clear hf; clear a; intro a hf
  first | refine ops_v hf hh (yv_addx (.inr rfl) rfl rfl (by omega) (by simp only [IntKind.top]; omega)) (.inl rfl) rfl rfl rfl ?_; clear hf; clear a; intro a hf | refine ops_v hf hh (yv_bin rfl rfl rfl) (.inl rfl) rfl rfl rfl ?_; clear hf; clear a; intro a hf
  refine ops_v hf hh (yv_cast (yv_assign rfl) (intv (b := ((sw2 (sw1 x) : Nat) : Int)) rfl)) (.inl rfl) rfl rfl rfl ?_; clear hf; clear a; intro a hf
  refine ops_end ?_
  refine then_n ?_
  refine sy_seq ?_
  refine sy_ops ?_
  refine ops_v hf hh (yv_move rfl) (.inl rfl) rfl rfl rfl ?_; clear hf; clear a; intro a hf
  refine ops_v hf hh (yv_cast (yv_shrx (.inr rfl) rfl rfl (by omega) (by omega) (by omega)) (intv (b := ((((sw2 (sw1 x))) / 16 : Nat) : Int)) (by simp [Nat.shiftRight_eq_div_pow]))) (.inl rfl) rfl rfl rfl ?_; clear hf; clear a; intro a hf
  refine ops_v hf hh (yv_move rfl) (.inl rfl) rfl rfl rfl ?_; clear hf; clear a; intro a hf
  first | refine ops_v hf hh (yv_addx (.inr rfl) rfl rfl (by omega) (by simp only [IntKind.top]; omega)) (.inl rfl) rfl rfl rfl ?_; clear hf; clear a; intro a hf | refine ops_v hf hh (yv_bin rfl rfl rfl) (.inl rfl) rfl rfl rfl ?_; clear hf; clear a; intro a hf
  first | refine ops_v hf hh (yv_and (.inr rfl) rfl rfl (by omega) (by simp only [IntKind.top]; omega) (by omega) (by simp only [IntKind.top]; omega)) (.inl rfl) rfl rfl rfl ?_; clear hf; clear a; intro a hf | refine ops_v hf hh (yv_bin rfl rfl rfl) (.inl rfl) rfl rfl rfl ?_; clear hf; clear a; intro a hf
  refine ops_v hf hh (yv_cast (yv_assign rfl) (intv (b := ((sw3 (sw2 (sw1 x)) : Nat) : Int)) rfl)) (.inl rfl) rfl rfl rfl ?_; clear hf; clear a; intro a hf
  refine ops_end ?_
  refine then_n ?_
  refine sy_seq ?_
  refine sy_ops ?_
  refine ops_v hf hh (yv_move rfl) (.inl rfl) rfl rfl rfl ?_; clear hf; clear a; intro a hf
  refine ops_v hf hh (yv_move rfl) (.inl rfl) rfl rfl rfl ?_; clear hf; clear a; intro a hf
  refine ops_v hf hh (yv_cast (yv_shrx (.inr rfl) rfl rfl (by omega) (by omega) (by omega)) (intv (b := ((((sw3 (sw2 (sw1 x)))) / 256 : Nat) : Int)) (by simp [Nat.shiftRight_eq_div_pow]))) (.inl rfl) rfl rfl rfl ?_; clear hf; clear a; intro a hf
  first | refine ops_v hf hh (yv_addx (.inr rfl) rfl rfl (by omega) (by simp only [IntKind.top]; omega)) (.inl rfl) rfl rfl rfl ?_; clear hf; clear a; intro a hf | refine ops_v hf hh (yv_bin rfl rfl rfl) (.inl rfl) rfl rfl rfl ?_; clear hf; clear a; intro a hf
  refine ops_v hf hh (yv_cast (yv_assign rfl) (intv (b := ((sw4 (sw3 (sw2 (sw1 x))) : Nat) : Int)) rfl)) (.inl rfl) rfl rfl rfl ?_; clear hf; clear a; intro a hf
  refine ops_end ?_
  refine then_n ?_
  refine sy_seq ?_
  refine sy_ops ?_
  refine ops_v hf hh (yv_move rfl) (.inl rfl) rfl rfl rfl ?_; clear hf; clear a; intro a hf
  refine ops_v hf hh (yv_move rfl) (.inl rfl) rfl rfl rfl ?_; clear hf; clear a; intro a hf
  refine ops_v hf hh (yv_cast (yv_shrx (.inr rfl) rfl rfl (by omega) (by omega) (by omega)) (intv (b := ((((sw4 (sw3 (sw2 (sw1 x))))) / 65536 : Nat) : Int)) (by simp [Nat.shiftRight_eq_div_pow]))) (.inl rfl) rfl rfl rfl ?_; clear hf; clear a; intro a hf
  first | refine ops_v hf hh (yv_addx (.inr rfl) rfl rfl (by omega) (by simp only [IntKind.top]; omega)) (.inl rfl) rfl rfl rfl ?_; clear hf; clear a; intro a hf | refine ops_v hf hh (yv_bin rfl rfl rfl) (.inl rfl) rfl rfl rfl ?_; clear hf; clear a; intro a hf
  refine ops_v hf hh (yv_cast (yv_assign rfl) (intv (b := ((sw5 (sw4 (sw3 (sw2 (sw1 x)))) : Nat) : Int)) rfl)) (.inl rfl) rfl rfl rfl ?_; clear hf; clear a; intro a hf
  refine ops_end ?_
  refine then_n ?_
  refine sy_seq ?_
  refine sy_ops ?_
  refine ops_v hf hh (yv_move rfl) (.inl rfl) rfl rfl rfl ?_; clear hf; clear a; intro a hf
  refine ops_v hf hh (yv_move rfl) (.inl rfl) rfl rfl rfl ?_; clear hf; clear a; intro a hf
  refine ops_v hf hh (yv_cast (yv_shrx (.inr rfl) rfl rfl (by omega) (by omega) (by omega)) (intv (b := ((((sw5 (sw4 (sw3 (sw2 (sw1 x)))))) / 4294967296 : Nat) : Int)) (by simp [Nat.shiftRight_eq_div_pow]))) (.inl rfl) rfl rfl rfl ?_; clear hf; clear a; intro a hf
  first | refine ops_v hf hh (yv_addx (.inr rfl) rfl rfl (by omega) (by simp only [IntKind.top]; omega)) (.inl rfl) rfl rfl rfl ?_; clear hf; clear a; intro a hf | refine ops_v hf hh (yv_bin rfl rfl rfl) (.inl rfl) rfl rfl rfl ?_; clear hf; clear a; intro a hf
  refine ops_v hf hh (yv_cast (yv_assign rfl) (intv (b := ((sw6 (sw5 (sw4 (sw3 (sw2 (sw1 x))))) : Nat) : Int)) rfl)) (.inl rfl) rfl rfl rfl ?_; clear hf; clear a; intro a hf
  refine ops_end ?_
  refine then_n ?_
  refine sy_seq ?_
  refine sy_ops ?_
  refine ops_v hf hh (yv_move rfl) (.inl rfl) rfl rfl rfl ?_; clear hf; clear a; intro a hf
  first | refine ops_v hf hh (yv_convx (.inl rfl) (by kernel_rfl) Tryz.un_3 rfl (by omega) (by simp only [IntKind.top]; omega)) (.inl rfl) rfl rfl rfl ?_; clear hf; clear a; intro a hf | refine ops_v hf hh (yv_conv (by kernel_rfl) Tryz.un_3 rfl) (.inl rfl) rfl rfl rfl ?_; clear hf; clear a; intro a hf
  first | refine ops_v hf hh (yv_and (.inl rfl) rfl rfl (by omega) (by simp only [IntKind.top]; omega) (by omega) (by simp only [IntKind.top]; omega)) (.inl rfl) rfl rfl rfl ?_; clear hf; clear a; intro a hf | refine ops_v hf hh (yv_bin rfl rfl rfl) (.inl rfl) rfl rfl rfl ?_; clear hf; clear a; intro a hf
  refine ops_v hf hh (yv_assign rfl) (.inl rfl) rfl rfl rfl ?_; clear hf; clear a; intro a hf
  refine ops_end ?_
  refine then_n ?_
  refine sy_ret ?_
  refine ret_r hf rfl rfl ?_
  refine ⟨?_, hh.ext⟩
  rw [← sw_pc hx]
  exact intv (by unfold sw; rfl)
/-- The library's table for lowest bits lies in its variable. -/
def GTab (w : World) : Prop := ∃ c T fr, w.heap[1]? = some (.cells c T fr) ∧ ∀ j, j < 64 → c[j]? = some (.int .u8 (Lib.deBruijn64tab.getD j 0))
theorem GTab.ext {w w' : World} {M : List Nat} (h : GTab w) (e : Ext M w w') (hm : 1 ∉ M) : GTab w' :=
  let ⟨c, T, fr, h1, h2⟩ := h
  ⟨c, T, fr, e.getM h1 hm, h2⟩
theorem tz_idx (x : Nat) (hx : x < 65536) (hx0 : x ≠ 0) : (IntKind.u64.wrap (IntKind.u64.wrap ((BitVec.ofInt IntKind.u64.bits (x : Int) &&& BitVec.ofInt IntKind.u64.bits (IntKind.u64.wrap (0 - (x : Int)))).toNat : Int) * 285870213051353865)).fdiv (2 ^ (58 : Int).toNat) =
    ((2 ^ Lib.ctz 64 x * 285870213051353865 % 18446744073709551616 / 288230376151711744 : Nat) : Int) := by
  obtain ⟨hlow, _⟩ := Lib.lowest_bit 64 x hx0 (by omega)
  have h := tz64_key x _ (by omega) hx0 hlow
  rw [Int.zero_sub, Int.fdiv_eq_ediv_of_nonneg _ (Int.pow_nonneg (by omega))]
  exact h
theorem c57 (x : Nat) (hx : x < 65536) (w : World) : Calls Tryz.prog 96 #[.int .u64 x] w (Ret fun v w' => v = .int .i64 (pc x) ∧ Ext [] w w') := by
  refine calls_of Tryz.func96 rfl rfl (fun a hf => ?_)
  have hh := Hp.init w []
  refine sy_seq ?_
  refine sy_ops ?_
  refine ops_v hf hh (yv_assign rfl) (.inl rfl) rfl rfl rfl ?_; clear hf; clear a; intro a hf
  refine ops_end ?_
  refine then_n ?_
  refine sy_seq ?_
  refine sy_cf hf rfl (by first | assumption | rfl | (simp; done)) ?_
  refine sy_skip ?_
  refine then_n ?_
  refine sy_seq ?_
  refine sy_ops ?_
  refine ops_v hf hh (yv_move rfl) (.inl rfl) rfl rfl rfl ?_; clear hf; clear a; intro a hf
  refine ops_call hf Tryz.en_114 rfl rfl rfl (.inl rfl) rfl (c72 x hx _) ?_; clear hf; clear a; intro v a w hR hf
  obtain ⟨rfl, hx⟩ := hR; replace hh := hh.more hx; clear hx
  refine ops_v hf hh (yv_assign rfl) (.inl rfl) rfl rfl rfl ?_; clear hf; clear a; intro a hf
  refine ops_end ?_
  refine then_n ?_
  refine sy_ret ?_
  refine ret_r hf rfl rfl ?_
  exact ⟨rfl, hh.ext⟩
theorem c53 (x : Nat) (hx : x < 65536) (w : World) : Calls Tryz.prog 57 #[.int .u64 x] w (Ret fun v w' => v = .int .i64 (pc x) ∧ Ext [] w w') := by
  refine calls_of Tryz.func57 rfl rfl (fun a hf => ?_)
  have hh := Hp.init w []
  refine sy_seq ?_
  refine sy_ops ?_
  refine ops_v hf hh (yv_assign rfl) (.inl rfl) rfl rfl rfl ?_; clear hf; clear a; intro a hf
  refine ops_end ?_
  refine then_n ?_
  refine sy_seq ?_
  refine sy_ops ?_
  refine ops_v hf hh (yv_move rfl) (.inl rfl) rfl rfl rfl ?_; clear hf; clear a; intro a hf
  refine ops_call hf Tryz.en_96 rfl rfl rfl (.inl rfl) rfl (c57 x hx _) ?_; clear hf; clear a; intro v a w hR hf
  obtain ⟨rfl, hx⟩ := hR; replace hh := hh.more hx; clear hx
  refine ops_v hf hh (yv_assign rfl) (.inl rfl) rfl rfl rfl ?_; clear hf; clear a; intro a hf
  refine ops_end ?_
  refine then_n ?_
  refine sy_ret ?_
  refine ret_r hf rfl rfl ?_
  exact ⟨rfl, hh.ext⟩
theorem c53i (x : Int) (h0 : 0 ≤ x) (hx : x < 65536) (w : World) : Calls Tryz.prog 57 #[.int .u64 x] w (Ret fun v w' => v = .int .i64 (pc x.toNat) ∧ Ext [] w w') := by
  obtain ⟨m, rfl⟩ := Int.eq_ofNat_of_zero_le h0
  exact c53 m (by omega) w
theorem tz_all (x : Nat) (hx : x < 65536) (hx0 : x ≠ 0) (w : World) (hT : GTab w) : ∃ (n1 n2 n3 : Int) (idx : Nat) (c : Array Value) (T : TypeId) (fr : Nat × Nat),
    IntKind.u64.wrap (0 - (x : Int)) = n1 ∧ IntKind.u64.wrap ((BitVec.ofInt IntKind.u64.bits (x : Int) &&& BitVec.ofInt IntKind.u64.bits n1).toNat : Int) = n2 ∧ IntKind.u64.wrap (n2 * 285870213051353865) = n3 ∧
    n3.fdiv (2 ^ (58 : Int).toNat) = (idx : Int) ∧ idx < 64 ∧ w.heap[1]? = some (.cells c T fr) ∧ c[0 + idx * 1]? = some (.int .u8 (Lib.ctz 64 x)) ∧ Lib.ctz 64 x < 64 := by
  obtain ⟨c, T, fr, hb, hc⟩ := hT
  obtain ⟨_, hk⟩ := Lib.lowest_bit 64 x hx0 (by omega)
  obtain ⟨hi, htab⟩ := Lib.deBruijn64_at _ hk
  have hcc := hc _ hi
  rw [htab] at hcc
  exact ⟨_, _, _, _, c, T, fr, rfl, rfl, rfl, tz_idx x hx hx0, hi, hb, by rw [Nat.zero_add, Nat.mul_one]; exact hcc, hk⟩
theorem c76 (x : Nat) (hx : x < 65536) (hx0 : x ≠ 0) (w : World) (hT : GTab w) : Calls Tryz.prog 98 #[.int .u64 x] w (Ret fun v w' => v = .int .i64 (Lib.ctz 64 x) ∧ Ext [] w w') := by
  refine calls_of Tryz.func98 rfl rfl (fun a hf => ?_)
  have hh := Hp.init w []
  obtain ⟨n1, n2, n3, idx, c, T, fr, h1, h2, h3, hid, hi, hb, hcd, hk⟩ := tz_all x hx hx0 w hT
  refine sy_seq ?_
  refine sy_ops ?_
  refine ops_v hf hh (yv_assign rfl) (.inl rfl) rfl rfl rfl ?_; clear hf; clear a; intro a hf
  refine ops_end ?_
  refine then_n ?_
  refine sy_seq ?_
  refine sy_seq ?_
  refine sy_ops ?_
  refine ops_v hf hh (yv_move rfl) (.inl rfl) rfl rfl rfl ?_; clear hf; clear a; intro a hf
  refine ops_v hf hh (yv_bin rfl rfl rfl) (.inl rfl) rfl rfl rfl ?_; clear hf; clear a; intro a hf
  refine ops_end ?_
  refine then_n ?_
  refine sy_cond hf rfl (fun hg2 => ?_) (fun hg2 => ?_)
  · have hG2 := hg2; try simp only [gS] at hG2
    refine sy_seq ?_
    refine sy_ops ?_
    refine ops_v hf hh (yv_assign rfl) (.inl rfl) rfl rfl rfl ?_; clear hf; clear a; intro a hf
    refine ops_end ?_
    refine then_n ?_
    refine sy_ret ?_
    refine then_r ?_
    refine ret_r hf rfl rfl ?_
    first | exact ⟨rfl, hh.ext⟩ | (exfalso; omega)
  · have hG2 := hg2; try simp only [gS] at hG2
    refine sy_skip ?_
    refine then_n ?_
    refine sy_seq ?_
    refine sy_ops ?_
    refine ops_v hf hh (yv_move rfl) (.inl rfl) rfl rfl rfl ?_; clear hf; clear a; intro a hf
    refine ops_v hf hh (yv_move rfl) (.inl rfl) rfl rfl rfl ?_; clear hf; clear a; intro a hf
    refine ops_v hf hh (yv_cast (yv_negw rfl) (intv h1)) (.inl rfl) rfl rfl rfl ?_; clear hf; clear a; intro a hf
    refine ops_v hf hh (yv_cast (yv_bin rfl rfl rfl) (intv h2)) (.inl rfl) rfl rfl rfl ?_; clear hf; clear a; intro a hf
    refine ops_v hf hh (yv_cast (yv_bin rfl rfl rfl) (intv h3)) (.inl rfl) rfl rfl rfl ?_; clear hf; clear a; intro a hf
    refine ops_v hf hh (yv_cast (yv_shr rfl rfl (by omega) (by simp only [IntKind.bits]; omega)) (intv hid)) (.inl rfl) rfl rfl rfl ?_; clear hf; clear a; intro a hf
    refine ops_v hf hh (yv_indexArr Tryz.ae_190 rfl rfl (by omega) (by omega)) (.inl rfl) rfl rfl rfl ?_; clear hf; clear a; intro a hf
    refine ops_v hf hh (yv_load Tryz.sc_5 rfl (fun _ h => by first | exact h.at (i := 0) rfl | exact h.at (i := 1) rfl | exact h.at (i := 2) rfl | exact h.at (i := 3) rfl | exact h.old hb) (by first | rfl | assumption)) (.inl rfl) rfl rfl rfl ?_; clear hf; clear a; intro a hf
    first | refine ops_v hf hh (yv_convx (.inl rfl) (by kernel_rfl) Tryz.un_3 rfl (by omega) (by simp only [IntKind.top]; omega)) (.inl rfl) rfl rfl rfl ?_; clear hf; clear a; intro a hf | refine ops_v hf hh (yv_conv (by kernel_rfl) Tryz.un_3 rfl) (.inl rfl) rfl rfl rfl ?_; clear hf; clear a; intro a hf
    refine ops_v hf hh (yv_assign rfl) (.inl rfl) rfl rfl rfl ?_; clear hf; clear a; intro a hf
    refine ops_end ?_
    refine then_n ?_
    refine sy_ret ?_
    refine ret_r hf rfl rfl ?_
    first | exact ⟨rfl, hh.ext⟩ | (exfalso; omega)
theorem c63 (x : Nat) (hx : x < 65536) (hx0 : x ≠ 0) (w : World) (hT : GTab w) : Calls Tryz.prog 60 #[.int .u64 x] w (Ret fun v w' => v = .int .i64 (Lib.ctz 64 x) ∧ Ext [] w w') := by
  refine calls_of Tryz.func60 rfl rfl (fun a hf => ?_)
  have hh := Hp.init w []
  refine sy_seq ?_
  refine sy_ops ?_
  refine ops_v hf hh (yv_assign rfl) (.inl rfl) rfl rfl rfl ?_; clear hf; clear a; intro a hf
  refine ops_end ?_
  refine then_n ?_
  refine sy_seq ?_
  refine sy_cf hf rfl (by first | assumption | rfl | (simp; done)) ?_
  refine sy_skip ?_
  refine then_n ?_
  refine sy_seq ?_
  refine sy_ops ?_
  refine ops_v hf hh (yv_move rfl) (.inl rfl) rfl rfl rfl ?_; clear hf; clear a; intro a hf
  refine ops_call hf Tryz.en_98 rfl rfl rfl (.inl rfl) rfl (c76 x hx hx0 _ (hT.ext hh.ext (by simp))) ?_; clear hf; clear a; intro v a w hR hf
  obtain ⟨rfl, hx⟩ := hR; replace hh := hh.more hx; clear hx
  refine ops_v hf hh (yv_assign rfl) (.inl rfl) rfl rfl rfl ?_; clear hf; clear a; intro a hf
  refine ops_end ?_
  refine then_n ?_
  refine sy_ret ?_
  refine ret_r hf rfl rfl ?_
  exact ⟨rfl, hh.ext⟩
theorem c60 (x y : Nat) (hx : x ≤ 4294967295) (hy : y ≤ 4294967295) (B cap : Nat) (T : TypeId) (w : World) (hB : w.heap[B]? = some (.cells #[.int .u64 x, .int .u64 y] T (0, 0))) : Calls Tryz.prog 110 #[.slice (some ⟨B, 0, none⟩) 2 cap] w (Ret fun v w' => v = .int .u64 ((x ||| y : Nat) : Int) ∧ Ext [] w w') := by
  refine calls_of Tryz.func110 rfl rfl (fun a hf => ?_)
  have hh := Hp.init w []
  have hxy : x ||| y ≤ 4294967295 := by
    have h1 := @Nat.or_lt_two_pow x y 32 (by omega) (by omega)
    omega
  obtain ⟨acc, hacc⟩ : ∃ acc : Nat → Nat, acc = fun k => if k = 0 then 0 else if k = 1 then x else x ||| y := ⟨_, rfl⟩
  obtain ⟨el, hel⟩ : ∃ el : Nat → Nat, el = fun k => if k = 0 then x else y := ⟨_, rfl⟩
  have hle : ∀ k, acc k ≤ 4294967295 := by intro k; subst hacc; simp only; split <;> (try split) <;> omega
  have hel1 : ∀ k, el k ≤ 4294967295 := by intro k; subst hel; simp only; split <;> omega
  refine sy_seq ?_
  refine sy_ops ?_
  refine ops_v hf hh (yv_assign rfl) (.inl rfl) rfl rfl rfl ?_; clear hf; clear a; intro a hf
  refine ops_end ?_
  refine then_n ?_
  refine sy_seq ?_
  refine sy_seq ?_
  refine sy_ops ?_
  refine ops_v hf hh (yv_move rfl) (.inl rfl) rfl rfl rfl ?_; clear hf; clear a; intro a hf
  refine ops_v hf hh (yv_len Tryz.se_202 rfl) (.inl rfl) rfl rfl rfl ?_; clear hf; clear a; intro a hf
  refine ops_v hf hh (yv_move rfl) (.inl rfl) rfl rfl rfl ?_; clear hf; clear a; intro a hf
  refine ops_end ?_
  refine then_n ?_
  refine sy_block ?_
  refine sy_loopF (σ := Nat) [2, 4, 7, 8, 9, 10, 11, 12, 13, 14] (fun k => [(2, .int .u64 (acc k)), (7, .int .i64 k)]) (fun k => k ≤ 2) (fun k => 2 - k) (0) hf hh ?_ ?_ ?_
  · exact ⟨by subst hacc; rfl, rfl, True.intro⟩
  · first | exact True.intro | omega | (simp; omega) | simp
  · rintro k a w hpr hf hh
    have h1 := hle k
    have h2 := hel1 k
    refine sy_seq ?_
    refine sy_ops ?_
    refine ops_v hf hh (yv_bin rfl rfl rfl) (.inl rfl) rfl rfl rfl ?_; clear hf; clear a; intro a hf
    refine ops_end ?_
    refine then_n ?_
    refine sy_seq ?_
    refine sy_cond hf rfl (fun hg2 => ?_) (fun hg2 => ?_)
    · have hG2 := hg2; try simp only [gS] at hG2
      refine sy_skip ?_
      refine then_n ?_
      refine sy_seq ?_
      refine sy_block ?_
      refine sy_seq ?_
      have hcd : (#[.int .u64 x, .int .u64 y] : Array Value)[0 + k * 1]? = some (.int .u64 (el k)) := by
        have : k = 0 ∨ k = 1 := by omega
        subst hel; rcases this with rfl | rfl <;> rfl
      refine sy_ops ?_
      refine ops_v hf hh (yv_indexAddr Tryz.se_202 rfl rfl (by omega) (by omega)) (.inl rfl) rfl rfl rfl ?_; clear hf; clear a; intro a hf
      refine ops_v hf hh (yv_load Tryz.sc_74 rfl (fun _ h => by first | exact h.at (i := 0) rfl | exact h.at (i := 1) rfl | exact h.at (i := 2) rfl | exact h.at (i := 3) rfl | exact h.old hB) (by first | rfl | assumption)) (.inl rfl) rfl rfl rfl ?_; clear hf; clear a; intro a hf
      refine ops_v hf hh (yv_assign rfl) (.inl rfl) rfl rfl rfl ?_; clear hf; clear a; intro a hf
      refine ops_end ?_
      refine then_n ?_
      refine sy_ops ?_
      refine ops_v hf hh (yv_move rfl) (.inl rfl) rfl rfl rfl ?_; clear hf; clear a; intro a hf
      refine ops_v hf hh (yv_move rfl) (.inl rfl) rfl rfl rfl ?_; clear hf; clear a; intro a hf
      first | refine ops_v hf hh (yv_or (.inr rfl) rfl rfl (by omega) (by simp only [IntKind.top]; omega) (by omega) (by simp only [IntKind.top]; omega)) (.inl rfl) rfl rfl rfl ?_; clear hf; clear a; intro a hf | refine ops_v hf hh (yv_bin rfl rfl rfl) (.inl rfl) rfl rfl rfl ?_; clear hf; clear a; intro a hf
      refine ops_v hf hh (yv_assign rfl) (.inl rfl) rfl rfl rfl ?_; clear hf; clear a; intro a hf
      refine ops_end ?_
      refine blk_n ?_
      refine then_n ?_
      refine sy_ops ?_
      first | refine ops_v hf hh (yv_add rfl rfl (by omega) (by omega)) (.inl rfl) rfl rfl rfl ?_; clear hf; clear a; intro a hf | refine ops_v hf hh (yv_bin rfl rfl rfl) (.inl rfl) rfl rfl rfl ?_; clear hf; clear a; intro a hf
      refine ops_v hf hh (yv_move rfl) (.inl rfl) rfl rfl rfl ?_; clear hf; clear a; intro a hf
      refine ops_end ?_
      refine then_n ?_
      have hacc1 : acc (k + 1) = acc k ||| el k := by
        have : k = 0 ∨ k = 1 := by omega
        subst hacc; subst hel; rcases this with rfl | rfl <;> simp
      refine ⟨k + 1, ⟨by omega, hf.head ⟨congrArg (fun z => some (Value.int IntKind.u64 z)) (by rw [hacc1]; rfl), rfl, True.intro⟩ (Keep.cons rfl (Keep.cons rfl (Keep.cons rfl (Keep.cons rfl (Keep.cons rfl (Keep.cons rfl (Keep.cons rfl (Keep.cons rfl (Keep.cons rfl (Keep.cons rfl (Keep.app rfl (Keep.rm rfl Keep.base)))))))))))), hh⟩, by omega⟩
    · have hG2 := hg2; try simp only [gS] at hG2
      refine sy_exit ?_
      refine then_e ?_
      refine then_e ?_
      refine blk_e ?_
      refine then_n ?_
      refine sy_seq ?_
      refine sy_ops ?_
      refine ops_v hf hh (yv_move rfl) (.inl rfl) rfl rfl rfl ?_; clear hf; clear a; intro a hf
      refine ops_v hf hh (yv_assign rfl) (.inl rfl) rfl rfl rfl ?_; clear hf; clear a; intro a hf
      refine ops_end ?_
      refine then_n ?_
      refine sy_ret ?_
      refine ret_r hf rfl rfl ?_
      have : k = 2 := by omega
      subst this
      exact ⟨by subst hacc; rfl, hh.ext⟩
end Go.Proofs.YtccpgpnekoncoaaGreatDoor

namespace Go.BarM
open Go.Sy
def cmpV (x y : Int) : Int := if x < y then -1 else if y < x then 1 else 0
def orV (x y z : Int) : Int := if x ≠ 0 then x else if y ≠ 0 then y else z
/-- Is the first pair of slots better than the other? -/
def befV (n l r n' l' r' : Int) : Bool := decide (n < n' ∨ (n = n' ∧ (r' - l' < r - l ∨ (r' - l' = r - l ∧ l < l'))))
theorem befV_same (n l r : Int) : befV n l r n l r = false := by simp [befV]
theorem befV_or (n l r n' l' r' : Int) : decide (orV (cmpV n n') (cmpV (r' - l') (r - l)) (cmpV l l') < 0) = befV n l r n' l' r' := by
  unfold befV orV cmpV
  by_cases h1 : n < n' <;> by_cases h2 : n' < n <;> by_cases h3 : r' - l' < r - l <;> by_cases h4 : r - l < r' - l' <;> by_cases h5 : l < l' <;> by_cases h6 : l' < l <;> simp [h1, h2, h3, h4, h5, h6] <;> omega
theorem pc_top (m : Nat) : ∀ y : Nat, y < 2 ^ (m + 1) → m < 32 → pc y = pc (y % 2 ^ m) + (if y.testBit m then 1 else 0) := by
  induction m with
  | zero =>
    intro y hy _
    have : y = 0 ∨ y = 1 := by omega
    rcases this with rfl | rfl
    · simp [pc_zero]
    · have := pc_step (n := 1) (by omega)
      simp [pc_zero] at this ⊢; omega
  | succ m ih =>
    intro y hy hm
    have hb : 2 ^ (m + 1 + 1) ≤ 2 ^ 33 := Nat.pow_le_pow_right (by omega) (by omega)
    have h1 := pc_step (n := y) (by omega)
    have h2 := ih (y / 2) (by rw [Nat.pow_succ] at hy; omega) (by omega)
    have h3 := pc_step (n := y % 2 ^ (m + 1)) (by have := Nat.mod_le y (2 ^ (m + 1)); omega)
    have e1 : y % 2 ^ (m + 1) % 2 = y % 2 := Nat.mod_mod_of_dvd _ (by rw [Nat.pow_succ]; exact Nat.dvd_mul_left ..)
    have e2 : y % 2 ^ (m + 1) / 2 = y / 2 % 2 ^ m := by rw [Nat.pow_succ, Nat.mul_comm, Nat.mod_mul_right_div_self]
    have e3 : y.testBit (m + 1) = (y / 2).testBit m := Nat.testBit_succ ..
    rw [e1, e2] at h3
    rw [h1, h2, h3, e3]
    omega
theorem pc_between (p l : Nat) : ∀ n : Nat, l + n < 32 → pc ((p >>> (l + 1)) % 2 ^ n) = between p l (l + 1 + n)
  | 0, _ => by simp [between_start, pc_zero, Nat.mod_one]
  | n + 1, h => by
    have ih := pc_between p l n (by omega)
    have h1 := pc_top n ((p >>> (l + 1)) % 2 ^ (n + 1)) (Nat.mod_lt _ (Nat.pow_pos (by omega))) (by omega)
    have e1 : (p >>> (l + 1)) % 2 ^ (n + 1) % 2 ^ n = (p >>> (l + 1)) % 2 ^ n := Nat.mod_mod_of_dvd _ (Nat.pow_dvd_pow 2 (by omega))
    have e2 : ((p >>> (l + 1)) % 2 ^ (n + 1)).testBit n = p.testBit (l + 1 + n) := by simp [Nat.testBit_mod_two_pow, Nat.testBit_shiftRight]
    rw [h1, e1, e2, ih, ← Nat.add_assoc, between_step _ _ _ (by omega)]
/-- The first scene that is none. -/
def firstBad (l : List Scn) : Int := match l.findIdx? (fun s => !okScn s) with | some i => (i : Int) | none => -1
theorem firstBad_at {l : List Scn} {k : Nat} {s : Scn} (h : ∀ j t, j < k → l[j]? = some t → okScn t = true) (hs : l[k]? = some s) (hb : okScn s = false) : firstBad l = k := by
  have : l.findIdx? (fun s => !okScn s) = some k := by
    obtain ⟨hl, he⟩ := List.getElem?_eq_some_iff.1 hs
    rw [List.findIdx?_eq_some_iff_getElem]
    refine ⟨hl, by rw [he, hb]; rfl, fun j hj => ?_⟩
    have := h j (l[j]'(by omega)) hj (by simp)
    simp [this]
  simp [firstBad, this]
theorem firstBad_none {l : List Scn} (h : ∀ j t, j < l.length → l[j]? = some t → okScn t = true) : firstBad l = -1 := by
  have : l.findIdx? (fun s => !okScn s) = none := by
    rw [List.findIdx?_eq_none_iff]
    intro x hx
    obtain ⟨j, hj⟩ := List.getElem?_of_mem hx
    rw [h j x (List.getElem?_eq_some_iff.1 hj).1 hj]; rfl
  simp [firstBad, this]
theorem firstBad_all (l : List Scn) : decide (0 ≤ firstBad l) = !(l.all okScn) := by
  unfold firstBad
  cases h : l.findIdx? (fun s => !okScn s) with
  | none =>
    rw [List.findIdx?_eq_none_iff] at h
    have : l.all okScn = true := List.all_eq_true.2 fun x hx => by have := h x hx; simpa using this
    rw [this]; rfl
  | some i =>
    rw [List.findIdx?_eq_some_iff_getElem] at h
    obtain ⟨hl, h1, _⟩ := h
    have : l.all okScn = false := by
      cases ha : l.all okScn
      · rfl
      · have := List.all_eq_true.1 ha _ (List.getElem_mem hl); rw [this] at h1; simp at h1
    rw [this]; simp
theorem okBar_last {b : BarD} (s1 : 1 ≤ b.slots) (s2 : b.slots ≤ 16) (p1 : 1 ≤ b.pitch) (p2 : b.pitch ≤ 1000) (k1 : 0 ≤ b.broken) (k2 : b.broken ≤ 2 ^ b.slots.toNat - 1) (m1 : 0 ≤ b.most) (m2 : b.most ≤ 16) (n : (b.scenes.length : Int) ≤ 10) : b.scenes.all okScn = okBar b := by
  have hn : b.scenes.length ≤ 10 := by omega
  simp [okBar, s1, s2, p1, p2, k1, k2, m1, m2, hn]
end Go.BarM

namespace Go.Proofs.YtccpgpnekoncoaaGreatDoor
open Go Go.Sy Go.BarM
theorem c77 (x : Int) (w : World) : Calls Tryz.prog 99 #[.int .i64 x] w (Ret fun v w' => v = .bool false ∧ Ext [] w w') := by
  refine calls_of Tryz.func99 rfl rfl (fun a hf => ?_)
  have hh := Hp.init w []
  refine sy_seq ?_
  refine sy_ops ?_
  refine ops_v hf hh (yv_assign rfl) (.inl rfl) rfl rfl rfl ?_; clear hf; clear a; intro a hf
  refine ops_end ?_
  refine then_n ?_
  refine sy_seq ?_
  refine sy_ops ?_
  refine ops_v hf hh (yv_move rfl) (.inl rfl) rfl rfl rfl ?_; clear hf; clear a; intro a hf
  refine ops_v hf hh (yv_move rfl) (.inl rfl) rfl rfl rfl ?_; clear hf; clear a; intro a hf
  refine ops_v hf hh (yv_bin rfl rfl rfl) (.inl rfl) rfl rfl rfl ?_; clear hf; clear a; intro a hf
  refine ops_v hf hh (yv_assign rfl) (.inl rfl) rfl rfl rfl ?_; clear hf; clear a; intro a hf
  refine ops_end ?_
  refine then_n ?_
  refine sy_ret ?_
  refine ret_r hf rfl rfl ?_
  exact ⟨by simp [tup], hh.ext⟩
theorem c66 (x y : Int) (w : World) : Calls Tryz.prog 63 #[.int .i64 x, .int .i64 y] w (Ret fun v w' => v = .int .i64 (cmpV x y) ∧ Ext [] w w') := by
  refine calls_of Tryz.func63 rfl rfl (fun a hf => ?_)
  have hh := Hp.init w []
  refine sy_seq ?_
  refine sy_ops ?_
  refine ops_v hf hh (yv_assign rfl) (.inl rfl) rfl rfl rfl ?_; clear hf; clear a; intro a hf
  refine ops_end ?_
  refine then_n ?_
  refine sy_seq ?_
  refine sy_ops ?_
  refine ops_v hf hh (yv_move rfl) (.inl rfl) rfl rfl rfl ?_; clear hf; clear a; intro a hf
  refine ops_call hf Tryz.en_99 rfl rfl rfl (.inl rfl) rfl (c77 _ _) ?_; clear hf; clear a; intro v a w hR hf
  obtain ⟨rfl, hx⟩ := hR; replace hh := hh.more hx; clear hx
  refine ops_v hf hh (yv_assign rfl) (.inl rfl) rfl rfl rfl ?_; clear hf; clear a; intro a hf
  refine ops_end ?_
  refine then_n ?_
  refine sy_seq ?_
  refine sy_ops ?_
  refine ops_v hf hh (yv_move rfl) (.inl rfl) rfl rfl rfl ?_; clear hf; clear a; intro a hf
  refine ops_call hf Tryz.en_99 rfl rfl rfl (.inl rfl) rfl (c77 _ _) ?_; clear hf; clear a; intro v a w hR hf
  obtain ⟨rfl, hx⟩ := hR; replace hh := hh.more hx; clear hx
  refine ops_v hf hh (yv_assign rfl) (.inl rfl) rfl rfl rfl ?_; clear hf; clear a; intro a hf
  refine ops_end ?_
  refine then_n ?_
  refine sy_seq ?_
  refine sy_seq ?_
  refine sy_ops ?_
  refine ops_v hf hh (yv_move rfl) (.inl rfl) rfl rfl rfl ?_; clear hf; clear a; intro a hf
  refine ops_end ?_
  refine then_n ?_
  refine sy_cf hf rfl (by first | assumption | rfl | (simp; done)) ?_
  refine sy_skip ?_
  refine then_n ?_
  refine sy_seq ?_
  refine sy_seq ?_
  refine sy_ops ?_
  refine ops_v hf hh (yv_move rfl) (.inl rfl) rfl rfl rfl ?_; clear hf; clear a; intro a hf
  refine ops_end ?_
  refine then_n ?_
  refine sy_cf hf rfl (by first | assumption | rfl | (simp; done)) ?_
  refine sy_skip ?_
  refine then_n ?_
  refine sy_seq ?_
  refine sy_seq ?_
  refine sy_ops ?_
  refine ops_v hf hh (yv_move rfl) (.inl rfl) rfl rfl rfl ?_; clear hf; clear a; intro a hf
  refine ops_v hf hh (yv_move rfl) (.inl rfl) rfl rfl rfl ?_; clear hf; clear a; intro a hf
  refine ops_v hf hh (yv_bin rfl rfl rfl) (.inl rfl) rfl rfl rfl ?_; clear hf; clear a; intro a hf
  refine ops_end ?_
  refine then_n ?_
  refine sy_cond hf rfl (fun hg4 => ?_) (fun hg4 => ?_)
  · have hG4 := hg4; try simp only [gS] at hG4
    refine sy_seq ?_
    refine sy_ops ?_
    refine ops_v hf hh (yv_assign rfl) (.inl rfl) rfl rfl rfl ?_; clear hf; clear a; intro a hf
    refine ops_end ?_
    refine then_n ?_
    refine sy_ret ?_
    refine then_r ?_
    refine ret_r hf rfl rfl ?_
    exact ⟨intv (by unfold cmpV; (repeat' split) <;> omega), hh.ext⟩
  · have hG4 := hg4; try simp only [gS] at hG4
    refine sy_skip ?_
    refine then_n ?_
    refine sy_seq ?_
    refine sy_seq ?_
    refine sy_ops ?_
    refine ops_v hf hh (yv_move rfl) (.inl rfl) rfl rfl rfl ?_; clear hf; clear a; intro a hf
    refine ops_v hf hh (yv_move rfl) (.inl rfl) rfl rfl rfl ?_; clear hf; clear a; intro a hf
    refine ops_v hf hh (yv_bin rfl rfl rfl) (.inl rfl) rfl rfl rfl ?_; clear hf; clear a; intro a hf
    refine ops_end ?_
    refine then_n ?_
    refine sy_cond hf rfl (fun hg6 => ?_) (fun hg6 => ?_)
    · have hG6 := hg6; try simp only [gS] at hG6
      refine sy_seq ?_
      refine sy_ops ?_
      refine ops_v hf hh (yv_assign rfl) (.inl rfl) rfl rfl rfl ?_; clear hf; clear a; intro a hf
      refine ops_end ?_
      refine then_n ?_
      refine sy_ret ?_
      refine then_r ?_
      refine ret_r hf rfl rfl ?_
      exact ⟨intv (by unfold cmpV; (repeat' split) <;> omega), hh.ext⟩
    · have hG6 := hg6; try simp only [gS] at hG6
      refine sy_skip ?_
      refine then_n ?_
      refine sy_seq ?_
      refine sy_ops ?_
      refine ops_v hf hh (yv_assign rfl) (.inl rfl) rfl rfl rfl ?_; clear hf; clear a; intro a hf
      refine ops_end ?_
      refine then_n ?_
      refine sy_ret ?_
      refine ret_r hf rfl rfl ?_
      exact ⟨intv (by unfold cmpV; (repeat' split) <;> omega), hh.ext⟩
theorem c65 (x y z : Int) (B cap : Nat) (T : TypeId) (w : World) (hB : w.heap[B]? = some (.cells #[.int .i64 x, .int .i64 y, .int .i64 z] T (0, 0))) : Calls Tryz.prog 62 #[.slice (some ⟨B, 0, none⟩) 3 cap] w (Ret fun v w' => v = .int .i64 (orV x y z) ∧ Ext [] w w') := by
  refine calls_of Tryz.func62 rfl rfl (fun a hf => ?_)
  have hh := Hp.init w []
  obtain ⟨el, hel⟩ : ∃ el : Nat → Int, el = fun k => if k = 0 then x else if k = 1 then y else z := ⟨_, rfl⟩
  refine sy_seq ?_
  refine sy_ops ?_
  refine ops_v hf hh (yv_assign rfl) (.inl rfl) rfl rfl rfl ?_; clear hf; clear a; intro a hf
  refine ops_end ?_
  refine then_n ?_
  refine sy_seq ?_
  refine sy_ops ?_
  refine ops_v hf hh (yv_assign rfl) (.inl rfl) rfl rfl rfl ?_; clear hf; clear a; intro a hf
  refine ops_end ?_
  refine then_n ?_
  refine sy_seq ?_
  refine sy_seq ?_
  refine sy_ops ?_
  refine ops_v hf hh (yv_move rfl) (.inl rfl) rfl rfl rfl ?_; clear hf; clear a; intro a hf
  refine ops_v hf hh (yv_len Tryz.se_108 rfl) (.inl rfl) rfl rfl rfl ?_; clear hf; clear a; intro a hf
  refine ops_v hf hh (yv_move rfl) (.inl rfl) rfl rfl rfl ?_; clear hf; clear a; intro a hf
  refine ops_end ?_
  refine then_n ?_
  refine sy_block ?_
  refine sy_loopF (σ := Nat) [2, 5, 8, 9, 10, 11, 12, 13, 14, 15, 16] (fun k => [(8, .int .i64 k)]) (fun k => k ≤ 3 ∧ ∀ j, j < k → el j = 0) (fun k => 3 - k) (0) hf hh ?_ ?_ ?_
  · repeat' (first | exact True.intro | refine And.intro rfl ?_)
  · exact ⟨by omega, fun j hj => by omega⟩
  · rintro k a w ⟨hq1, hq2⟩ hf hh
    refine sy_seq ?_
    refine sy_ops ?_
    refine ops_v hf hh (yv_bin rfl rfl rfl) (.inl rfl) rfl rfl rfl ?_; clear hf; clear a; intro a hf
    refine ops_end ?_
    refine then_n ?_
    refine sy_seq ?_
    refine sy_cond hf rfl (fun hg2 => ?_) (fun hg2 => ?_)
    · have hG2 := hg2; try simp only [gS] at hG2
      refine sy_skip ?_
      refine then_n ?_
      refine sy_seq ?_
      refine sy_block ?_
      refine sy_seq ?_
      have hcd : (#[.int .i64 x, .int .i64 y, .int .i64 z] : Array Value)[0 + k * 1]? = some (.int .i64 (el k)) := by
        have : k = 0 ∨ k = 1 ∨ k = 2 := by omega
        subst hel; rcases this with rfl | rfl | rfl <;> rfl
      refine sy_ops ?_
      refine ops_v hf hh (yv_indexAddr Tryz.se_108 rfl rfl (by omega) (by omega)) (.inl rfl) rfl rfl rfl ?_; clear hf; clear a; intro a hf
      refine ops_v hf hh (yv_load Tryz.sc_3 rfl (fun _ h => by first | exact h.at (i := 0) rfl | exact h.at (i := 1) rfl | exact h.at (i := 2) rfl | exact h.at (i := 3) rfl | exact h.old hB) (by first | rfl | assumption)) (.inl rfl) rfl rfl rfl ?_; clear hf; clear a; intro a hf
      refine ops_v hf hh (yv_assign rfl) (.inl rfl) rfl rfl rfl ?_; clear hf; clear a; intro a hf
      refine ops_end ?_
      refine then_n ?_
      refine sy_seq ?_
      refine sy_ops ?_
      refine ops_v hf hh (yv_move rfl) (.inl rfl) rfl rfl rfl ?_; clear hf; clear a; intro a hf
      refine ops_v hf hh (yv_move rfl) (.inl rfl) rfl rfl rfl ?_; clear hf; clear a; intro a hf
      refine ops_v hf hh (yv_bin rfl rfl rfl) (.inl rfl) rfl rfl rfl ?_; clear hf; clear a; intro a hf
      refine ops_end ?_
      refine then_n ?_
      refine sy_cond hf rfl (fun hg4 => ?_) (fun hg4 => ?_)
      · have hG4 := hg4; try simp only [gS] at hG4
        refine sy_seq ?_
        refine sy_ops ?_
        refine ops_v hf hh (yv_move rfl) (.inl rfl) rfl rfl rfl ?_; clear hf; clear a; intro a hf
        refine ops_v hf hh (yv_assign rfl) (.inl rfl) rfl rfl rfl ?_; clear hf; clear a; intro a hf
        refine ops_end ?_
        refine then_n ?_
        refine sy_ret ?_
        refine blk_r ?_
        refine then_r ?_
        refine then_r ?_
        refine blk_r ?_
        refine then_r ?_
        refine ret_r hf rfl rfl ?_
        refine ⟨intv ?_, hh.ext⟩
        have e0 := hq2 0; have e1 := hq2 1; have e2 := hq2 2
        have : k = 0 ∨ k = 1 ∨ k = 2 ∨ k = 3 := by omega
        clear hh hf hB
        subst hel
        unfold orV
        rcases this with rfl | rfl | rfl | rfl <;> simp_all
      · have hG4 := hg4; try simp only [gS] at hG4
        refine sy_skip ?_
        refine blk_n ?_
        refine then_n ?_
        refine sy_ops ?_
        first | refine ops_v hf hh (yv_add rfl rfl (by omega) (by omega)) (.inl rfl) rfl rfl rfl ?_; clear hf; clear a; intro a hf | refine ops_v hf hh (yv_bin rfl rfl rfl) (.inl rfl) rfl rfl rfl ?_; clear hf; clear a; intro a hf
        refine ops_v hf hh (yv_move rfl) (.inl rfl) rfl rfl rfl ?_; clear hf; clear a; intro a hf
        refine ops_end ?_
        refine then_n ?_
        refine ⟨k + 1, ⟨⟨by omega, fun j hj => ?_⟩, hf.head ⟨rfl, True.intro⟩ (Keep.cons rfl (Keep.cons rfl (Keep.cons rfl (Keep.cons rfl (Keep.cons rfl (Keep.cons rfl (Keep.cons rfl (Keep.cons rfl (Keep.cons rfl (Keep.app rfl (Keep.rm rfl Keep.base))))))))))), hh⟩, by omega⟩
        by_cases hjk : j = k
        · subst hjk; assumption
        · exact hq2 j (by omega)
    · have hG2 := hg2; try simp only [gS] at hG2
      refine sy_exit ?_
      refine then_e ?_
      refine then_e ?_
      refine blk_e ?_
      refine then_n ?_
      refine sy_seq ?_
      refine sy_ops ?_
      refine ops_v hf hh (yv_move rfl) (.inl rfl) rfl rfl rfl ?_; clear hf; clear a; intro a hf
      refine ops_v hf hh (yv_assign rfl) (.inl rfl) rfl rfl rfl ?_; clear hf; clear a; intro a hf
      refine ops_end ?_
      refine then_n ?_
      refine sy_ret ?_
      refine ret_r hf rfl rfl ?_
      refine ⟨intv ?_, hh.ext⟩
      have e0 := hq2 0; have e1 := hq2 1; have e2 := hq2 2
      have : k = 0 ∨ k = 1 ∨ k = 2 ∨ k = 3 := by omega
      clear hh hf hB
      subst hel
      unfold orV
      rcases this with rfl | rfl | rfl | rfl <;> simp_all
theorem c43 (n l r n' l' r' : Int) (w : World) (h1 : 0 ≤ l) (h2 : l ≤ r) (h3 : r ≤ 62) (h4 : 0 ≤ l') (h5 : l' ≤ r') (h6 : r' ≤ 62) : Calls Tryz.prog 25 #[.agg #[.int .i64 n, .int .i64 l, .int .i64 r], .agg #[.int .i64 n', .int .i64 l', .int .i64 r']] w
    (Ret fun v w' => v = .bool (befV n l r n' l' r') ∧ Ext [] w w') := by
  refine calls_of Tryz.func25 rfl rfl (fun a hf => ?_)
  have hh := Hp.init w []
  refine sy_seq ?_
  refine sy_ops ?_
  refine ops_box hf hh rfl (.inl rfl) rfl ?_; clear hf hh; clear a; intro B2 a w hf hh
  refine ops_box hf hh rfl (.inl rfl) rfl ?_; clear hf hh; clear a; intro B3 a w hf hh
  refine ops_v hf hh (yv_assign rfl) (.inl rfl) rfl rfl rfl ?_; clear hf; clear a; intro a hf
  refine ops_end ?_
  refine then_n ?_
  refine sy_seq ?_
  refine sy_seq ?_
  refine sy_ops ?_
  refine ops_v hf hh (yv_loads Tryz.ag_70 rfl (fun _ h => by first | exact h.at (i := 0) rfl | exact h.at (i := 1) rfl | exact h.at (i := 2) rfl) (by first | assumption | rfl)) (.inl rfl) rfl rfl rfl ?_; clear hf; clear a; intro a hf
  refine ops_v hf hh (yv_loads Tryz.ag_70 rfl (fun _ h => by first | exact h.at (i := 0) rfl | exact h.at (i := 1) rfl | exact h.at (i := 2) rfl) (by first | assumption | rfl)) (.inl rfl) rfl rfl rfl ?_; clear hf; clear a; intro a hf
  refine ops_v hf hh (yv_eq3 (by kernel_rfl) rfl rfl) (.inl rfl) rfl rfl rfl ?_; clear hf; clear a; intro a hf
  refine ops_end ?_
  refine then_n ?_
  refine sy_cond hf rfl (fun hg2 => ?_) (fun hg2 => ?_)
  · have hG2 := hg2; try simp only [gS] at hG2
    refine sy_seq ?_
    refine sy_ops ?_
    refine ops_v hf hh (yv_assign rfl) (.inl rfl) rfl rfl rfl ?_; clear hf; clear a; intro a hf
    refine ops_end ?_
    refine then_n ?_
    refine sy_ret ?_
    refine then_r ?_
    refine ret_r hf rfl rfl ?_
    refine ⟨congrArg Value.bool ?_, hh.ext⟩
    first
      | exact befV_or n l r n' l' r'
      | (have hG := ‹n = n' ∧ l = l' ∧ r = r'›; obtain ⟨rfl, rfl, rfl⟩ := hG; exact (befV_same _ _ _).symm)
  · have hG2 := hg2; try simp only [gS] at hG2
    refine sy_skip ?_
    refine then_n ?_
    refine sy_seq ?_
    refine sy_tail (C := Hp _ _ _) 21 Tryz.follows (by kernel_rfl) rfl rfl (hh.drawn _) ?_
    refine q_v hf (yv_fieldAddr Tryz.fo_70_0 rfl) (.inl rfl) rfl rfl ?_; clear hf; clear a; intro a hf
    refine q_v hf (yv_load Tryz.sc_3 rfl (fun _ h => by first | exact h.at (i := 0) rfl | exact h.at (i := 1) rfl | exact h.at (i := 2) rfl) (by first | rfl | assumption)) (.inl rfl) rfl rfl ?_; clear hf; clear a; intro a hf
    refine q_v hf (yv_fieldAddr Tryz.fo_70_0 rfl) (.inl rfl) rfl rfl ?_; clear hf; clear a; intro a hf
    refine q_v hf (yv_load Tryz.sc_3 rfl (fun _ h => by first | exact h.at (i := 0) rfl | exact h.at (i := 1) rfl | exact h.at (i := 2) rfl) (by first | rfl | assumption)) (.inl rfl) rfl rfl ?_; clear hf; clear a; intro a hf
    refine q_callE hf Tryz.en_63 rfl rfl rfl (.inl rfl) rfl (fun w hh => c66 _ _ _) ?_; clear hf; clear a; intro a hf
    refine q_v hf (yv_fieldAddr Tryz.fo_70_2 rfl) (.inl rfl) rfl rfl ?_; clear hf; clear a; intro a hf
    refine q_v hf (yv_load Tryz.sc_3 rfl (fun _ h => by first | exact h.at (i := 0) rfl | exact h.at (i := 1) rfl | exact h.at (i := 2) rfl) (by first | rfl | assumption)) (.inl rfl) rfl rfl ?_; clear hf; clear a; intro a hf
    refine q_v hf (yv_fieldAddr Tryz.fo_70_1 rfl) (.inl rfl) rfl rfl ?_; clear hf; clear a; intro a hf
    refine q_v hf (yv_load Tryz.sc_3 rfl (fun _ h => by first | exact h.at (i := 0) rfl | exact h.at (i := 1) rfl | exact h.at (i := 2) rfl) (by first | rfl | assumption)) (.inl rfl) rfl rfl ?_; clear hf; clear a; intro a hf
    first | refine q_v hf (yv_sub rfl rfl (by omega) (by omega)) (.inl rfl) rfl rfl ?_; clear hf; clear a; intro a hf | refine q_v hf (yv_bin rfl rfl rfl) (.inl rfl) rfl rfl ?_; clear hf; clear a; intro a hf
    refine q_v hf (yv_fieldAddr Tryz.fo_70_2 rfl) (.inl rfl) rfl rfl ?_; clear hf; clear a; intro a hf
    refine q_v hf (yv_load Tryz.sc_3 rfl (fun _ h => by first | exact h.at (i := 0) rfl | exact h.at (i := 1) rfl | exact h.at (i := 2) rfl) (by first | rfl | assumption)) (.inl rfl) rfl rfl ?_; clear hf; clear a; intro a hf
    refine q_v hf (yv_fieldAddr Tryz.fo_70_1 rfl) (.inl rfl) rfl rfl ?_; clear hf; clear a; intro a hf
    refine q_v hf (yv_load Tryz.sc_3 rfl (fun _ h => by first | exact h.at (i := 0) rfl | exact h.at (i := 1) rfl | exact h.at (i := 2) rfl) (by first | rfl | assumption)) (.inl rfl) rfl rfl ?_; clear hf; clear a; intro a hf
    first | refine q_v hf (yv_sub rfl rfl (by omega) (by omega)) (.inl rfl) rfl rfl ?_; clear hf; clear a; intro a hf | refine q_v hf (yv_bin rfl rfl rfl) (.inl rfl) rfl rfl ?_; clear hf; clear a; intro a hf
    refine q_callE hf Tryz.en_63 rfl rfl rfl (.inl rfl) rfl (fun w hh => c66 _ _ _) ?_; clear hf; clear a; intro a hf
    refine q_v hf (yv_fieldAddr Tryz.fo_70_1 rfl) (.inl rfl) rfl rfl ?_; clear hf; clear a; intro a hf
    refine q_v hf (yv_load Tryz.sc_3 rfl (fun _ h => by first | exact h.at (i := 0) rfl | exact h.at (i := 1) rfl | exact h.at (i := 2) rfl) (by first | rfl | assumption)) (.inl rfl) rfl rfl ?_; clear hf; clear a; intro a hf
    refine q_v hf (yv_fieldAddr Tryz.fo_70_1 rfl) (.inl rfl) rfl rfl ?_; clear hf; clear a; intro a hf
    refine q_v hf (yv_load Tryz.sc_3 rfl (fun _ h => by first | exact h.at (i := 0) rfl | exact h.at (i := 1) rfl | exact h.at (i := 2) rfl) (by first | rfl | assumption)) (.inl rfl) rfl rfl ?_; clear hf; clear a; intro a hf
    refine q_callE hf Tryz.en_63 rfl rfl rfl (.inl rfl) rfl (fun w hh => c66 _ _ _) ?_; clear hf; clear a; intro a hf
    refine q_end fun w hh => ?_
    refine ops_buildSl hf hh Tryz.bl_108_3 rfl rfl (.inl rfl) rfl ?_; clear hf hh; clear a; intro B29 a w hf hh
    refine ops_call hf Tryz.en_62 rfl rfl rfl (.inl rfl) rfl (c65 _ _ _ _ _ _ _ (hh.at (i := 0) rfl)) ?_; clear hf; clear a; intro v a w hR hf
    obtain ⟨rfl, hx⟩ := hR; replace hh := hh.more hx; clear hx
    refine ops_v hf hh (yv_bin rfl rfl rfl) (.inl rfl) rfl rfl rfl ?_; clear hf; clear a; intro a hf
    refine ops_v hf hh (yv_assign rfl) (.inl rfl) rfl rfl rfl ?_; clear hf; clear a; intro a hf
    refine ops_end ?_
    refine then_n ?_
    refine sy_ret ?_
    refine ret_r hf rfl rfl ?_
    refine ⟨congrArg Value.bool ?_, hh.ext⟩
    first
      | exact befV_or n l r n' l' r'
      | (have hG := ‹n = n' ∧ l = l' ∧ r = r'›; obtain ⟨rfl, rfl, rfl⟩ := hG; exact (befV_same _ _ _).symm)
theorem c64 (p l r : Nat) (w : World) (hp : p < 65536) (hl : l < r) (hr : r ≤ 30) : Calls Tryz.prog 61 #[.int .u64 p, .int .i64 l, .int .i64 r] w (Ret fun v w' => v = .int .i64 (between p l r) ∧ Ext [] w w') := by
  refine calls_of Tryz.func61 rfl rfl (fun a hf => ?_)
  have hh := Hp.init w []
  obtain ⟨q, hq⟩ : ∃ q, q = p >>> (l + 1) := ⟨_, rfl⟩
  obtain ⟨m, hm⟩ : ∃ m, m = 2 ^ (r - l - 1) := ⟨_, rfl⟩
  have hsl : q ≤ p := by rw [hq]; exact Nat.shiftRight_le p (l + 1)
  have hpp : m ≤ 2 ^ 30 := by rw [hm]; exact Nat.pow_le_pow_right (by omega) (by omega)
  have hp1 : 1 ≤ m := by rw [hm]; exact Nat.one_le_two_pow
  have hb : q % m < 65536 := by
    have e1 := Nat.mod_le q m
    omega
  refine sy_seq ?_
  refine sy_ops ?_
  refine ops_v hf hh (yv_assign rfl) (.inl rfl) rfl rfl rfl ?_; clear hf; clear a; intro a hf
  refine ops_end ?_
  refine then_n ?_
  refine sy_seq ?_
  refine sy_quiet (C := Hp _ _ _) Tryz.follows (by kernel_rfl) (hh.drawn _) ?_
  refine q_v hf (yv_move rfl) (.inl rfl) rfl rfl ?_; clear hf; clear a; intro a hf
  refine q_v hf (yv_move rfl) (.inl rfl) rfl rfl ?_; clear hf; clear a; intro a hf
  first | refine q_v hf (yv_add rfl rfl (by omega) (by omega)) (.inl rfl) rfl rfl ?_; clear hf; clear a; intro a hf | refine q_v hf (yv_bin rfl rfl rfl) (.inl rfl) rfl rfl ?_; clear hf; clear a; intro a hf
  refine q_v hf (yv_cast (yv_shrx (.inr rfl) rfl rfl (by omega) (by omega) (by omega)) (intv (b := (q : Int)) (by rw [hq, show ((p : Int)).toNat = p from rfl, show ((l : Int) + 1).toNat = l + 1 from by omega]))) (.inl rfl) rfl rfl ?_; clear hf; clear a; intro a hf
  refine q_v hf (yv_move rfl) (.inl rfl) rfl rfl ?_; clear hf; clear a; intro a hf
  refine q_v hf (yv_move rfl) (.inl rfl) rfl rfl ?_; clear hf; clear a; intro a hf
  first | refine q_v hf (yv_sub rfl rfl (by omega) (by omega)) (.inl rfl) rfl rfl ?_; clear hf; clear a; intro a hf | refine q_v hf (yv_bin rfl rfl rfl) (.inl rfl) rfl rfl ?_; clear hf; clear a; intro a hf
  first | refine q_v hf (yv_sub rfl rfl (by omega) (by omega)) (.inl rfl) rfl rfl ?_; clear hf; clear a; intro a hf | refine q_v hf (yv_bin rfl rfl rfl) (.inl rfl) rfl rfl ?_; clear hf; clear a; intro a hf
  refine q_v hf (yv_cast (yv_shl1 (.inr rfl) rfl rfl (by omega) (by omega)) (intv (b := (m : Int)) (by rw [hm, show ((r : Int) - l - 1).toNat = r - l - 1 from by omega]))) (.inl rfl) rfl rfl ?_; clear hf; clear a; intro a hf
  refine q_v hf (yv_cast (yv_subx (.inr rfl) rfl rfl (by omega) (by simp only [IntKind.top]; omega)) (intv (b := ((m - 1 : Nat) : Int)) (by omega))) (.inl rfl) rfl rfl ?_; clear hf; clear a; intro a hf
  refine q_v hf (yv_cast (yv_and (.inr rfl) rfl rfl (by omega) (by simp only [IntKind.top]; omega) (by omega) (by simp only [IntKind.top]; omega)) (intv (b := ((q % m : Nat) : Int)) (by rw [Int.toNat_natCast, Int.toNat_natCast, hm, Nat.and_two_pow_sub_one_eq_mod]))) (.inl rfl) rfl rfl ?_; clear hf; clear a; intro a hf
  refine q_callE hf Tryz.en_57 rfl rfl rfl (.inl rfl) rfl (fun w hh => c53 _ hb _) ?_; clear hf; clear a; intro a hf
  refine q_v hf (yv_assign rfl) (.inl rfl) rfl rfl ?_; clear hf; clear a; intro a hf
  refine q_end fun w hh => ?_
  refine then_n ?_
  refine sy_ret ?_
  refine ret_r hf rfl rfl ?_
  refine ⟨intv ?_, hh.ext⟩
  rw [hq, hm, pc_between p l (r - l - 1) (by omega), show l + 1 + (r - l - 1) = r by omega]
theorem c73 (s : Scn) (w : World) : Calls Tryz.prog 94 #[.agg #[.int .i64 s.least, .int .i64 s.most, .int .i64 s.calm]] w (Ret fun v w' => v = .bool (!okScn s) ∧ Ext [] w w') := by
  refine calls_of Tryz.func94 rfl rfl (fun a hf => ?_)
  have hh := Hp.init w []
  refine sy_seq ?_
  refine sy_ops ?_
  refine ops_box hf hh rfl (.inl rfl) rfl ?_; clear hf hh; clear a; intro B1 a w hf hh
  refine ops_v hf hh (yv_assign rfl) (.inl rfl) rfl rfl rfl ?_; clear hf; clear a; intro a hf
  refine ops_end ?_
  refine then_n ?_
  refine sy_seq ?_
  refine sy_ops ?_
  refine ops_v hf hh (yv_fieldAddr Tryz.fo_33_0 rfl) (.inl rfl) rfl rfl rfl ?_; clear hf; clear a; intro a hf
  refine ops_v hf hh (yv_load Tryz.sc_3 rfl (fun _ h => by first | exact h.at (i := 0) rfl | exact h.at (i := 1) rfl | exact h.at (i := 2) rfl | exact h.at (i := 3) rfl) (by first | rfl | assumption)) (.inl rfl) rfl rfl rfl ?_; clear hf; clear a; intro a hf
  refine ops_call hf Tryz.en_22 rfl rfl rfl (.inl rfl) rfl (c40 _ _ _ _) ?_; clear hf; clear a; intro v a w hR hf
  obtain ⟨rfl, hx⟩ := hR; replace hh := hh.more hx; clear hx
  refine ops_v hf hh (yv_not rfl) (.inl rfl) rfl rfl rfl ?_; clear hf; clear a; intro a hf
  refine ops_v hf hh (yv_move rfl) (.inl rfl) rfl rfl rfl ?_; clear hf; clear a; intro a hf
  refine guard_split hf (t := 7) rfl (fun hg2 => ?_) (fun hg2 => ?_)
  · have hG2 := hg2; try simp only [gS] at hG2
    refine ops_off hf (goff rfl rfl rfl (by first | assumption | rfl | (simp; done))) rfl rfl ?_; clear hf; clear a; intro a hf
    refine ops_off hf (goff rfl rfl rfl (by first | assumption | rfl | (simp; done))) rfl rfl ?_; clear hf; clear a; intro a hf
    refine ops_off hf (goff rfl rfl rfl (by first | assumption | rfl | (simp; done))) rfl rfl ?_; clear hf; clear a; intro a hf
    refine ops_off hf (goff rfl rfl rfl (by first | assumption | rfl | (simp; done))) rfl rfl ?_; clear hf; clear a; intro a hf
    refine ops_off hf (goff rfl rfl rfl (by first | assumption | rfl | (simp; done))) rfl rfl ?_; clear hf; clear a; intro a hf
    refine ops_off hf (goff rfl rfl rfl (by first | assumption | rfl | (simp; done))) rfl rfl ?_; clear hf; clear a; intro a hf
    refine ops_v hf hh (yv_pick_t rfl (by first | assumption | rfl | (simp; done)) rfl) (.inl rfl) rfl rfl rfl ?_; clear hf; clear a; intro a hf
    refine ops_v hf hh (yv_move rfl) (.inl rfl) rfl rfl rfl ?_; clear hf; clear a; intro a hf
    refine ops_off hf (goff rfl rfl rfl (by first | assumption | rfl | (simp; done))) rfl rfl ?_; clear hf; clear a; intro a hf
    refine ops_off hf (goff rfl rfl rfl (by first | assumption | rfl | (simp; done))) rfl rfl ?_; clear hf; clear a; intro a hf
    refine ops_off hf (goff rfl rfl rfl (by first | assumption | rfl | (simp; done))) rfl rfl ?_; clear hf; clear a; intro a hf
    refine ops_off hf (goff rfl rfl rfl (by first | assumption | rfl | (simp; done))) rfl rfl ?_; clear hf; clear a; intro a hf
    refine ops_v hf hh (yv_pick_t rfl (by first | assumption | rfl | (simp; done)) rfl) (.inl rfl) rfl rfl rfl ?_; clear hf; clear a; intro a hf
    refine ops_v hf hh (yv_assign rfl) (.inl rfl) rfl rfl rfl ?_; clear hf; clear a; intro a hf
    refine ops_end ?_
    refine then_n ?_
    refine sy_ret ?_
    refine ret_r hf rfl rfl ?_
    refine ⟨congrArg Value.bool ?_, hh.ext⟩
    first | (simp [okScn, *]; done) | (simp [okScn]; omega)
  · have hG2 := hg2; try simp only [gS] at hG2
    refine ops_v hf hh (yv_fieldAddr Tryz.fo_33_1 rfl) (gon rfl rfl rfl (by first | assumption | rfl | (simp; done))) rfl rfl rfl ?_; clear hf; clear a; intro a hf
    refine ops_v hf hh (yv_load Tryz.sc_3 rfl (fun _ h => by first | exact h.at (i := 0) rfl | exact h.at (i := 1) rfl | exact h.at (i := 2) rfl | exact h.at (i := 3) rfl) (by first | rfl | assumption)) (gon rfl rfl rfl (by first | assumption | rfl | (simp; done))) rfl rfl rfl ?_; clear hf; clear a; intro a hf
    refine ops_v hf hh (yv_fieldAddr Tryz.fo_33_0 rfl) (gon rfl rfl rfl (by first | assumption | rfl | (simp; done))) rfl rfl rfl ?_; clear hf; clear a; intro a hf
    refine ops_v hf hh (yv_load Tryz.sc_3 rfl (fun _ h => by first | exact h.at (i := 0) rfl | exact h.at (i := 1) rfl | exact h.at (i := 2) rfl | exact h.at (i := 3) rfl) (by first | rfl | assumption)) (gon rfl rfl rfl (by first | assumption | rfl | (simp; done))) rfl rfl rfl ?_; clear hf; clear a; intro a hf
    refine ops_call hf Tryz.en_22 rfl rfl rfl (gon rfl rfl rfl (by first | assumption | rfl | (simp; done))) rfl (c40 _ _ _ _) ?_; clear hf; clear a; intro v a w hR hf
    obtain ⟨rfl, hx⟩ := hR; replace hh := hh.more hx; clear hx
    refine ops_v hf hh (yv_not rfl) (gon rfl rfl rfl (by first | assumption | rfl | (simp; done))) rfl rfl rfl ?_; clear hf; clear a; intro a hf
    refine ops_v hf hh (yv_pick_f rfl (by first | assumption | rfl | (simp; done)) rfl) (.inl rfl) rfl rfl rfl ?_; clear hf; clear a; intro a hf
    refine ops_v hf hh (yv_move rfl) (.inl rfl) rfl rfl rfl ?_; clear hf; clear a; intro a hf
    refine guard_split hf (t := 15) rfl (fun hg4 => ?_) (fun hg4 => ?_)
    · have hG4 := hg4; try simp only [gS] at hG4
      refine ops_off hf (goff rfl rfl rfl (by first | assumption | rfl | (simp; done))) rfl rfl ?_; clear hf; clear a; intro a hf
      refine ops_off hf (goff rfl rfl rfl (by first | assumption | rfl | (simp; done))) rfl rfl ?_; clear hf; clear a; intro a hf
      refine ops_off hf (goff rfl rfl rfl (by first | assumption | rfl | (simp; done))) rfl rfl ?_; clear hf; clear a; intro a hf
      refine ops_off hf (goff rfl rfl rfl (by first | assumption | rfl | (simp; done))) rfl rfl ?_; clear hf; clear a; intro a hf
      refine ops_v hf hh (yv_pick_t rfl (by first | assumption | rfl | (simp; done)) rfl) (.inl rfl) rfl rfl rfl ?_; clear hf; clear a; intro a hf
      refine ops_v hf hh (yv_assign rfl) (.inl rfl) rfl rfl rfl ?_; clear hf; clear a; intro a hf
      refine ops_end ?_
      refine then_n ?_
      refine sy_ret ?_
      refine ret_r hf rfl rfl ?_
      refine ⟨congrArg Value.bool ?_, hh.ext⟩
      first | (simp [okScn, *]; done) | (simp [okScn]; omega)
    · have hG4 := hg4; try simp only [gS] at hG4
      refine ops_v hf hh (yv_fieldAddr Tryz.fo_33_2 rfl) (gon rfl rfl rfl (by first | assumption | rfl | (simp; done))) rfl rfl rfl ?_; clear hf; clear a; intro a hf
      refine ops_v hf hh (yv_load Tryz.sc_3 rfl (fun _ h => by first | exact h.at (i := 0) rfl | exact h.at (i := 1) rfl | exact h.at (i := 2) rfl | exact h.at (i := 3) rfl) (by first | rfl | assumption)) (gon rfl rfl rfl (by first | assumption | rfl | (simp; done))) rfl rfl rfl ?_; clear hf; clear a; intro a hf
      refine ops_call hf Tryz.en_22 rfl rfl rfl (gon rfl rfl rfl (by first | assumption | rfl | (simp; done))) rfl (c40 _ _ _ _) ?_; clear hf; clear a; intro v a w hR hf
      obtain ⟨rfl, hx⟩ := hR; replace hh := hh.more hx; clear hx
      refine ops_v hf hh (yv_not rfl) (gon rfl rfl rfl (by first | assumption | rfl | (simp; done))) rfl rfl rfl ?_; clear hf; clear a; intro a hf
      refine ops_v hf hh (yv_pick_f rfl (by first | assumption | rfl | (simp; done)) rfl) (.inl rfl) rfl rfl rfl ?_; clear hf; clear a; intro a hf
      refine ops_v hf hh (yv_assign rfl) (.inl rfl) rfl rfl rfl ?_; clear hf; clear a; intro a hf
      refine ops_end ?_
      refine then_n ?_
      refine sy_ret ?_
      refine ret_r hf rfl rfl ?_
      refine ⟨congrArg Value.bool ?_, hh.ext⟩
      first | (simp [okScn, *]; done) | (simp [okScn]; omega)
theorem c78 (l : List Scn) (sa : Option Addr) (sc : Nat) (w : World) (hS : ScAt w sa l) (hn : l.length ≤ 10) : Calls Tryz.prog 112 #[.slice sa l.length sc, .func (.func 94) #[] #[]] w (Ret fun v w' => v = .int .i64 (firstBad l) ∧ Ext [] w w') := by
  refine calls_of Tryz.func112 rfl rfl (fun a hf => ?_)
  have hh := Hp.init w []
  refine sy_seq ?_
  refine sy_ops ?_
  refine ops_v hf hh (yv_assign rfl) (.inl rfl) rfl rfl rfl ?_; clear hf; clear a; intro a hf
  refine ops_end ?_
  refine then_n ?_
  refine sy_seq ?_
  refine sy_seq ?_
  refine sy_ops ?_
  refine ops_v hf hh (yv_move rfl) (.inl rfl) rfl rfl rfl ?_; clear hf; clear a; intro a hf
  refine ops_v hf hh (yv_len Tryz.se_22 rfl) (.inl rfl) rfl rfl rfl ?_; clear hf; clear a; intro a hf
  refine ops_v hf hh (yv_move rfl) (.inl rfl) rfl rfl rfl ?_; clear hf; clear a; intro a hf
  refine ops_end ?_
  refine then_n ?_
  refine sy_block ?_
  refine sy_loopF (σ := Nat) [4, 5, 8, 9, 10, 11, 12, 13, 14, 15, 16, 17, 18] (fun k => [(8, .int .i64 k)]) (fun k => k ≤ l.length ∧ ∀ j s, j < k → l[j]? = some s → okScn s = true) (fun k => l.length - k) (0) hf hh ?_ ?_ ?_
  · repeat' (first | exact True.intro | refine And.intro rfl ?_)
  · exact ⟨by omega, fun j s hj => by omega⟩
  · rintro k a w ⟨hq1, hq2⟩ hf hh
    refine sy_seq ?_
    refine sy_ops ?_
    refine ops_v hf hh (yv_bin rfl rfl rfl) (.inl rfl) rfl rfl rfl ?_; clear hf; clear a; intro a hf
    refine ops_end ?_
    refine then_n ?_
    refine sy_seq ?_
    refine sy_cond hf rfl (fun hg2 => ?_) (fun hg2 => ?_)
    · have hG2 := hg2; try simp only [gS] at hG2
      refine sy_skip ?_
      refine then_n ?_
      refine sy_seq ?_
      refine sy_block ?_
      refine sy_seq ?_
      refine sy_ops ?_
      refine ops_v hf hh (yv_move rfl) (.inl rfl) rfl rfl rfl ?_; clear hf; clear a; intro a hf
      refine ops_v hf hh (yv_assign rfl) (.inl rfl) rfl rfl rfl ?_; clear hf; clear a; intro a hf
      refine ops_end ?_
      refine then_n ?_
      refine sy_seq ?_
      obtain ⟨s, hs⟩ := scn_of (l := l) (i := k) (by omega)
      obtain ⟨blk, off, c, T, fr, e, hb, hc⟩ := hS k s hs; cases e
      refine sy_ops ?_
      refine ops_v hf hh (yv_move rfl) (.inl rfl) rfl rfl rfl ?_; clear hf; clear a; intro a hf
      refine ops_v hf hh (yv_move rfl) (.inl rfl) rfl rfl rfl ?_; clear hf; clear a; intro a hf
      refine ops_v hf hh (yv_move rfl) (.inl rfl) rfl rfl rfl ?_; clear hf; clear a; intro a hf
      refine ops_v hf hh (yv_indexAddr Tryz.se_22 rfl rfl (by omega) (by omega)) (.inl rfl) rfl rfl rfl ?_; clear hf; clear a; intro a hf
      refine ops_v hf hh (yv_loads Tryz.ag_33 rfl (fun _ h => by first | exact h.at (i := 0) rfl | exact h.at (i := 1) rfl | exact h.at (i := 2) rfl | exact h.at (i := 3) rfl | exact h.old hb) (by first | assumption | rfl)) (.inl rfl) rfl rfl rfl ?_; clear hf; clear a; intro a hf
      refine ops_call hf Tryz.en_94 rfl rfl rfl (.inl rfl) rfl (c73 s _) ?_; clear hf; clear a; intro v a w hR hf
      obtain ⟨rfl, hx⟩ := hR; replace hh := hh.more hx; clear hx
      refine ops_end ?_
      refine then_n ?_
      refine sy_cond hf rfl (fun hg4 => ?_) (fun hg4 => ?_)
      · have hG4 := hg4; try simp only [gS] at hG4
        refine sy_seq ?_
        refine sy_ops ?_
        refine ops_v hf hh (yv_move rfl) (.inl rfl) rfl rfl rfl ?_; clear hf; clear a; intro a hf
        refine ops_v hf hh (yv_assign rfl) (.inl rfl) rfl rfl rfl ?_; clear hf; clear a; intro a hf
        refine ops_end ?_
        refine then_n ?_
        refine sy_ret ?_
        refine blk_r ?_
        refine then_r ?_
        refine then_r ?_
        refine blk_r ?_
        refine then_r ?_
        refine ret_r hf rfl rfl ?_
        refine ⟨intv ?_, hh.ext⟩
        first
          | (exact (firstBad_at hq2 hs (by simp_all)).symm)
          | (exact (firstBad_none (fun j t hj ht => hq2 j t (by omega) ht)).symm)
      · have hG4 := hg4; try simp only [gS] at hG4
        refine sy_skip ?_
        refine blk_n ?_
        refine then_n ?_
        refine sy_ops ?_
        first | refine ops_v hf hh (yv_add rfl rfl (by omega) (by omega)) (.inl rfl) rfl rfl rfl ?_; clear hf; clear a; intro a hf | refine ops_v hf hh (yv_bin rfl rfl rfl) (.inl rfl) rfl rfl rfl ?_; clear hf; clear a; intro a hf
        refine ops_v hf hh (yv_move rfl) (.inl rfl) rfl rfl rfl ?_; clear hf; clear a; intro a hf
        refine ops_end ?_
        refine then_n ?_
        refine ⟨k + 1, ⟨⟨by omega, fun j t hj ht => ?_⟩, hf.head ⟨rfl, True.intro⟩ (Keep.cons rfl (Keep.cons rfl (Keep.cons rfl (Keep.cons rfl (Keep.cons rfl (Keep.cons rfl (Keep.cons rfl (Keep.cons rfl (Keep.cons rfl (Keep.cons rfl (Keep.cons rfl (Keep.app rfl (Keep.rm rfl Keep.base))))))))))))), hh⟩, by omega⟩
        by_cases hjk : j = k
        · subst hjk; rw [hs] at ht; cases ht; simp_all
        · exact hq2 j t (by omega) ht
    · have hG2 := hg2; try simp only [gS] at hG2
      refine sy_exit ?_
      refine then_e ?_
      refine then_e ?_
      refine blk_e ?_
      refine then_n ?_
      refine sy_seq ?_
      refine sy_ops ?_
      refine ops_v hf hh (yv_assign rfl) (.inl rfl) rfl rfl rfl ?_; clear hf; clear a; intro a hf
      refine ops_end ?_
      refine then_n ?_
      refine sy_ret ?_
      refine ret_r hf rfl rfl ?_
      refine ⟨intv ?_, hh.ext⟩
      first
        | (exact (firstBad_at hq2 hs (by simp_all)).symm)
        | (exact (firstBad_none (fun j t hj ht => hq2 j t (by omega) ht)).symm)
theorem c74 (l : List Scn) (sa : Option Addr) (sc : Nat) (w : World) (hS : ScAt w sa l) (hn : l.length ≤ 10) : Calls Tryz.prog 95 #[.slice sa l.length sc, .func (.func 94) #[] #[]] w (Ret fun v w' => v = .bool (!(l.all okScn)) ∧ Ext [] w w') := by
  refine calls_of Tryz.func95 rfl rfl (fun a hf => ?_)
  have hh := Hp.init w []
  refine sy_seq ?_
  refine sy_ops ?_
  refine ops_v hf hh (yv_assign rfl) (.inl rfl) rfl rfl rfl ?_; clear hf; clear a; intro a hf
  refine ops_end ?_
  refine then_n ?_
  refine sy_seq ?_
  refine sy_ops ?_
  refine ops_v hf hh (yv_move rfl) (.inl rfl) rfl rfl rfl ?_; clear hf; clear a; intro a hf
  refine ops_v hf hh (yv_move rfl) (.inl rfl) rfl rfl rfl ?_; clear hf; clear a; intro a hf
  refine ops_call hf Tryz.en_112 rfl rfl rfl (.inl rfl) rfl (c78 l sa sc _ hS hn) ?_; clear hf; clear a; intro v a w hR hf
  obtain ⟨rfl, hx⟩ := hR; replace hh := hh.more hx; clear hx
  refine ops_v hf hh (yv_bin rfl rfl rfl) (.inl rfl) rfl rfl rfl ?_; clear hf; clear a; intro a hf
  refine ops_v hf hh (yv_assign rfl) (.inl rfl) rfl rfl rfl ?_; clear hf; clear a; intro a hf
  refine ops_end ?_
  refine then_n ?_
  refine sy_ret ?_
  refine ret_r hf rfl rfl ?_
  exact ⟨congrArg Value.bool (firstBad_all l), hh.ext⟩
theorem c59 (b : BarD) (sa : Option Addr) (sc : Nat) (w : World) (hS : ScAt w sa b.scenes) : Calls Tryz.prog 56 #[barV b sa sc] w (Ret fun v w' => v = .bool (okBar b) ∧ Ext [] w w') := by
  refine calls_of Tryz.func56 rfl rfl (fun a hf => ?_)
  have hh := Hp.init w []
  have hpw := @shl_bd b.slots
  have hpw2 := cast_pow b.slots.toNat
  refine sy_seq ?_
  refine sy_ops ?_
  refine ops_box hf hh rfl (.inl rfl) rfl ?_; clear hf hh; clear a; intro B1 a w hf hh
  refine ops_v hf hh (yv_assign rfl) (.inl rfl) rfl rfl rfl ?_; clear hf; clear a; intro a hf
  refine ops_end ?_
  refine then_n ?_
  refine sy_seq ?_
  refine sy_ops ?_
  refine ops_v hf hh (yv_assign rfl) (.inl rfl) rfl rfl rfl ?_; clear hf; clear a; intro a hf
  refine ops_end ?_
  refine then_n ?_
  refine sy_seq ?_
  refine sy_ops ?_
  refine ops_v hf hh (yv_fieldAddr Tryz.fo_24_0 rfl) (.inl rfl) rfl rfl rfl ?_; clear hf; clear a; intro a hf
  refine ops_v hf hh (yv_load Tryz.sc_3 rfl (fun _ h => by first | exact h.at (i := 0) rfl | exact h.at (i := 1) rfl) (by first | rfl | assumption)) (.inl rfl) rfl rfl rfl ?_; clear hf; clear a; intro a hf
  refine ops_call hf Tryz.en_22 rfl rfl rfl (.inl rfl) rfl (c40 _ _ _ _) ?_; clear hf; clear a; intro v a w hR hf
  obtain ⟨rfl, hx⟩ := hR; replace hh := hh.more hx; clear hx
  refine ops_v hf hh (yv_move rfl) (.inl rfl) rfl rfl rfl ?_; clear hf; clear a; intro a hf
  refine guard_split hf (t := 8) rfl (fun hg2 => ?_) (fun hg2 => ?_)
  · have hG2 := hg2; try simp only [gS] at hG2
    refine ops_v hf hh (yv_fieldAddr Tryz.fo_24_1 rfl) (gon rfl rfl rfl (by first | assumption | rfl | (simp; done))) rfl rfl rfl ?_; clear hf; clear a; intro a hf
    refine ops_v hf hh (yv_load Tryz.sc_3 rfl (fun _ h => by first | exact h.at (i := 0) rfl | exact h.at (i := 1) rfl) (by first | rfl | assumption)) (gon rfl rfl rfl (by first | assumption | rfl | (simp; done))) rfl rfl rfl ?_; clear hf; clear a; intro a hf
    refine ops_call hf Tryz.en_22 rfl rfl rfl (gon rfl rfl rfl (by first | assumption | rfl | (simp; done))) rfl (c40 _ _ _ _) ?_; clear hf; clear a; intro v a w hR hf
    obtain ⟨rfl, hx⟩ := hR; replace hh := hh.more hx; clear hx
    refine ops_v hf hh (yv_pick_t rfl (by first | assumption | rfl | (simp; done)) rfl) (.inl rfl) rfl rfl rfl ?_; clear hf; clear a; intro a hf
    refine ops_v hf hh (yv_move rfl) (.inl rfl) rfl rfl rfl ?_; clear hf; clear a; intro a hf
    refine guard_split hf (t := 13) rfl (fun hg4 => ?_) (fun hg4 => ?_)
    · have hG4 := hg4; try simp only [gS] at hG4
      refine ops_v hf hh (yv_fieldAddr Tryz.fo_24_3 rfl) (gon rfl rfl rfl (by first | assumption | rfl | (simp; done))) rfl rfl rfl ?_; clear hf; clear a; intro a hf
      refine ops_v hf hh (yv_load Tryz.sc_3 rfl (fun _ h => by first | exact h.at (i := 0) rfl | exact h.at (i := 1) rfl) (by first | rfl | assumption)) (gon rfl rfl rfl (by first | assumption | rfl | (simp; done))) rfl rfl rfl ?_; clear hf; clear a; intro a hf
      refine ops_call hf Tryz.en_22 rfl rfl rfl (gon rfl rfl rfl (by first | assumption | rfl | (simp; done))) rfl (c40 _ _ _ _) ?_; clear hf; clear a; intro v a w hR hf
      obtain ⟨rfl, hx⟩ := hR; replace hh := hh.more hx; clear hx
      refine ops_v hf hh (yv_pick_t rfl (by first | assumption | rfl | (simp; done)) rfl) (.inl rfl) rfl rfl rfl ?_; clear hf; clear a; intro a hf
      refine ops_v hf hh (yv_assign rfl) (.inl rfl) rfl rfl rfl ?_; clear hf; clear a; intro a hf
      refine ops_end ?_
      refine then_n ?_
      refine sy_seq ?_
      refine sy_quiet (C := Hp _ _ _) Tryz.follows (by kernel_rfl) (hh.drawn _) ?_
      refine q_v hf (yv_move rfl) (.inl rfl) rfl rfl ?_; clear hf; clear a; intro a hf
      refine q_v hf (yv_move rfl) (.inl rfl) rfl rfl ?_; clear hf; clear a; intro a hf
      refine guard_splitq hf (t := 19) rfl (fun hg6 => ?_) (fun hg6 => ?_)
      · have hG6 := hg6; try simp only [gS] at hG6
        refine q_v hf (yv_fieldAddr Tryz.fo_24_2 rfl) (gon rfl rfl rfl (by first | assumption | rfl | (simp; done))) rfl rfl ?_; clear hf; clear a; intro a hf
        refine q_v hf (yv_load Tryz.sc_3 rfl (fun _ h => by first | exact h.at (i := 0) rfl | exact h.at (i := 1) rfl) (by first | rfl | assumption)) (gon rfl rfl rfl (by first | assumption | rfl | (simp; done))) rfl rfl ?_; clear hf; clear a; intro a hf
        refine q_v hf (yv_fieldAddr Tryz.fo_24_0 rfl) (gon rfl rfl rfl (by first | assumption | rfl | (simp; done))) rfl rfl ?_; clear hf; clear a; intro a hf
        refine q_v hf (yv_load Tryz.sc_3 rfl (fun _ h => by first | exact h.at (i := 0) rfl | exact h.at (i := 1) rfl) (by first | rfl | assumption)) (gon rfl rfl rfl (by first | assumption | rfl | (simp; done))) rfl rfl ?_; clear hf; clear a; intro a hf
        refine q_v hf (yv_shl1 (.inl rfl) rfl rfl (by omega) (by omega)) (gon rfl rfl rfl (by first | assumption | rfl | (simp; done))) rfl rfl ?_; clear hf; clear a; intro a hf
        first | refine q_v hf (yv_sub rfl rfl (by omega) (by omega)) (gon rfl rfl rfl (by first | assumption | rfl | (simp; done))) rfl rfl ?_; clear hf; clear a; intro a hf | refine q_v hf (yv_bin rfl rfl rfl) (gon rfl rfl rfl (by first | assumption | rfl | (simp; done))) rfl rfl ?_; clear hf; clear a; intro a hf
        refine q_callE hf Tryz.en_22 rfl rfl rfl (gon rfl rfl rfl (by first | assumption | rfl | (simp; done))) rfl (fun w hh => c40 _ _ _ _) ?_; clear hf; clear a; intro a hf
        refine q_v hf (yv_pick_t rfl (by first | assumption | rfl | (simp; done)) rfl) (.inl rfl) rfl rfl ?_; clear hf; clear a; intro a hf
        refine q_v hf (yv_move rfl) (.inl rfl) rfl rfl ?_; clear hf; clear a; intro a hf
        refine guard_splitq hf (t := 28) rfl (fun hg8 => ?_) (fun hg8 => ?_)
        · have hG8 := hg8; try simp only [gS] at hG8
          refine q_v hf (yv_fieldAddr Tryz.fo_24_4 rfl) (gon rfl rfl rfl (by first | assumption | rfl | (simp; done))) rfl rfl ?_; clear hf; clear a; intro a hf
          refine q_v hf (yv_load Tryz.sc_22 rfl (fun _ h => by first | exact h.at (i := 0) rfl | exact h.at (i := 1) rfl) (by first | rfl | assumption)) (gon rfl rfl rfl (by first | assumption | rfl | (simp; done))) rfl rfl ?_; clear hf; clear a; intro a hf
          refine q_v hf (yv_len Tryz.se_22 rfl) (gon rfl rfl rfl (by first | assumption | rfl | (simp; done))) rfl rfl ?_; clear hf; clear a; intro a hf
          refine q_v hf (yv_bin rfl rfl rfl) (gon rfl rfl rfl (by first | assumption | rfl | (simp; done))) rfl rfl ?_; clear hf; clear a; intro a hf
          refine q_v hf (yv_pick_t rfl (by first | assumption | rfl | (simp; done)) rfl) (.inl rfl) rfl rfl ?_; clear hf; clear a; intro a hf
          refine q_v hf (yv_move rfl) (.inl rfl) rfl rfl ?_; clear hf; clear a; intro a hf
          refine guard_splitq hf (t := 34) rfl (fun hg10 => ?_) (fun hg10 => ?_)
          · have hG10 := hg10; try simp only [gS] at hG10
            refine q_v hf (yv_fieldAddr Tryz.fo_24_4 rfl) (gon rfl rfl rfl (by first | assumption | rfl | (simp; done))) rfl rfl ?_; clear hf; clear a; intro a hf
            refine q_v hf (yv_load Tryz.sc_22 rfl (fun _ h => by first | exact h.at (i := 0) rfl | exact h.at (i := 1) rfl) (by first | rfl | assumption)) (gon rfl rfl rfl (by first | assumption | rfl | (simp; done))) rfl rfl ?_; clear hf; clear a; intro a hf
            refine q_v hf (yv_move rfl) (gon rfl rfl rfl (by first | assumption | rfl | (simp; done))) rfl rfl ?_; clear hf; clear a; intro a hf
            refine q_callE hf Tryz.en_95 rfl rfl rfl (gon rfl rfl rfl (by first | assumption | rfl | (simp; done))) rfl (fun w hh => c74 b.scenes sa sc _ (hS.ext hh.ext) (by omega)) ?_; clear hf; clear a; intro a hf
            refine q_v hf (yv_not rfl) (gon rfl rfl rfl (by first | assumption | rfl | (simp; done))) rfl rfl ?_; clear hf; clear a; intro a hf
            refine q_v hf (yv_pick_t rfl (by first | assumption | rfl | (simp; done)) rfl) (.inl rfl) rfl rfl ?_; clear hf; clear a; intro a hf
            refine q_v hf (yv_assign rfl) (.inl rfl) rfl rfl ?_; clear hf; clear a; intro a hf
            refine q_end fun w hh => ?_
            refine then_n ?_
            refine sy_ret ?_
            refine ret_r hf rfl rfl ?_
            refine ⟨congrArg Value.bool ?_, hh.ext⟩
            first
              | (rw [Bool.not_not]; refine okBar_last ?_ ?_ ?_ ?_ ?_ ?_ ?_ ?_ ?_ <;> omega)
              | (refine okBar_no fun hV => ?_
                 have h1 := hV.s1; have h2 := hV.s2; have h3 := hV.p1; have h4 := hV.p2; have h5 := hV.k1; have h6 := hV.k2; have h7 := hV.m1; have h8 := hV.m2; have h9 := hV.n
                 have h10 := hpw h1 h2
                 omega)
          · have hG10 := hg10; try simp only [gS] at hG10
            refine q_off hf (goff rfl rfl rfl (by first | assumption | rfl | (simp; done))) rfl rfl ?_; clear hf; clear a; intro a hf
            refine q_off hf (goff rfl rfl rfl (by first | assumption | rfl | (simp; done))) rfl rfl ?_; clear hf; clear a; intro a hf
            refine q_off hf (goff rfl rfl rfl (by first | assumption | rfl | (simp; done))) rfl rfl ?_; clear hf; clear a; intro a hf
            refine q_off hf (goff rfl rfl rfl (by first | assumption | rfl | (simp; done))) rfl rfl ?_; clear hf; clear a; intro a hf
            refine q_off hf (goff rfl rfl rfl (by first | assumption | rfl | (simp; done))) rfl rfl ?_; clear hf; clear a; intro a hf
            refine q_v hf (yv_pick_f rfl (by first | assumption | rfl | (simp; done)) rfl) (.inl rfl) rfl rfl ?_; clear hf; clear a; intro a hf
            refine q_v hf (yv_assign rfl) (.inl rfl) rfl rfl ?_; clear hf; clear a; intro a hf
            refine q_end fun w hh => ?_
            refine then_n ?_
            refine sy_ret ?_
            refine ret_r hf rfl rfl ?_
            refine ⟨congrArg Value.bool ?_, hh.ext⟩
            first
              | (rw [Bool.not_not]; refine okBar_last ?_ ?_ ?_ ?_ ?_ ?_ ?_ ?_ ?_ <;> omega)
              | (refine okBar_no fun hV => ?_
                 have h1 := hV.s1; have h2 := hV.s2; have h3 := hV.p1; have h4 := hV.p2; have h5 := hV.k1; have h6 := hV.k2; have h7 := hV.m1; have h8 := hV.m2; have h9 := hV.n
                 have h10 := hpw h1 h2
                 omega)
        · have hG8 := hg8; try simp only [gS] at hG8
          refine q_off hf (goff rfl rfl rfl (by first | assumption | rfl | (simp; done))) rfl rfl ?_; clear hf; clear a; intro a hf
          refine q_off hf (goff rfl rfl rfl (by first | assumption | rfl | (simp; done))) rfl rfl ?_; clear hf; clear a; intro a hf
          refine q_off hf (goff rfl rfl rfl (by first | assumption | rfl | (simp; done))) rfl rfl ?_; clear hf; clear a; intro a hf
          refine q_off hf (goff rfl rfl rfl (by first | assumption | rfl | (simp; done))) rfl rfl ?_; clear hf; clear a; intro a hf
          refine q_v hf (yv_pick_f rfl (by first | assumption | rfl | (simp; done)) rfl) (.inl rfl) rfl rfl ?_; clear hf; clear a; intro a hf
          refine q_v hf (yv_move rfl) (.inl rfl) rfl rfl ?_; clear hf; clear a; intro a hf
          refine q_off hf (goff rfl rfl rfl (by first | assumption | rfl | (simp; done))) rfl rfl ?_; clear hf; clear a; intro a hf
          refine q_off hf (goff rfl rfl rfl (by first | assumption | rfl | (simp; done))) rfl rfl ?_; clear hf; clear a; intro a hf
          refine q_off hf (goff rfl rfl rfl (by first | assumption | rfl | (simp; done))) rfl rfl ?_; clear hf; clear a; intro a hf
          refine q_off hf (goff rfl rfl rfl (by first | assumption | rfl | (simp; done))) rfl rfl ?_; clear hf; clear a; intro a hf
          refine q_off hf (goff rfl rfl rfl (by first | assumption | rfl | (simp; done))) rfl rfl ?_; clear hf; clear a; intro a hf
          refine q_v hf (yv_pick_f rfl (by first | assumption | rfl | (simp; done)) rfl) (.inl rfl) rfl rfl ?_; clear hf; clear a; intro a hf
          refine q_v hf (yv_assign rfl) (.inl rfl) rfl rfl ?_; clear hf; clear a; intro a hf
          refine q_end fun w hh => ?_
          refine then_n ?_
          refine sy_ret ?_
          refine ret_r hf rfl rfl ?_
          refine ⟨congrArg Value.bool ?_, hh.ext⟩
          first
            | (rw [Bool.not_not]; refine okBar_last ?_ ?_ ?_ ?_ ?_ ?_ ?_ ?_ ?_ <;> omega)
            | (refine okBar_no fun hV => ?_
               have h1 := hV.s1; have h2 := hV.s2; have h3 := hV.p1; have h4 := hV.p2; have h5 := hV.k1; have h6 := hV.k2; have h7 := hV.m1; have h8 := hV.m2; have h9 := hV.n
               have h10 := hpw h1 h2
               omega)
      · have hG6 := hg6; try simp only [gS] at hG6
        refine q_off hf (goff rfl rfl rfl (by first | assumption | rfl | (simp; done))) rfl rfl ?_; clear hf; clear a; intro a hf
        refine q_off hf (goff rfl rfl rfl (by first | assumption | rfl | (simp; done))) rfl rfl ?_; clear hf; clear a; intro a hf
        refine q_off hf (goff rfl rfl rfl (by first | assumption | rfl | (simp; done))) rfl rfl ?_; clear hf; clear a; intro a hf
        refine q_off hf (goff rfl rfl rfl (by first | assumption | rfl | (simp; done))) rfl rfl ?_; clear hf; clear a; intro a hf
        refine q_off hf (goff rfl rfl rfl (by first | assumption | rfl | (simp; done))) rfl rfl ?_; clear hf; clear a; intro a hf
        refine q_off hf (goff rfl rfl rfl (by first | assumption | rfl | (simp; done))) rfl rfl ?_; clear hf; clear a; intro a hf
        refine q_off hf (goff rfl rfl rfl (by first | assumption | rfl | (simp; done))) rfl rfl ?_; clear hf; clear a; intro a hf
        refine q_v hf (yv_pick_f rfl (by first | assumption | rfl | (simp; done)) rfl) (.inl rfl) rfl rfl ?_; clear hf; clear a; intro a hf
        refine q_v hf (yv_move rfl) (.inl rfl) rfl rfl ?_; clear hf; clear a; intro a hf
        refine q_off hf (goff rfl rfl rfl (by first | assumption | rfl | (simp; done))) rfl rfl ?_; clear hf; clear a; intro a hf
        refine q_off hf (goff rfl rfl rfl (by first | assumption | rfl | (simp; done))) rfl rfl ?_; clear hf; clear a; intro a hf
        refine q_off hf (goff rfl rfl rfl (by first | assumption | rfl | (simp; done))) rfl rfl ?_; clear hf; clear a; intro a hf
        refine q_off hf (goff rfl rfl rfl (by first | assumption | rfl | (simp; done))) rfl rfl ?_; clear hf; clear a; intro a hf
        refine q_v hf (yv_pick_f rfl (by first | assumption | rfl | (simp; done)) rfl) (.inl rfl) rfl rfl ?_; clear hf; clear a; intro a hf
        refine q_v hf (yv_move rfl) (.inl rfl) rfl rfl ?_; clear hf; clear a; intro a hf
        refine q_off hf (goff rfl rfl rfl (by first | assumption | rfl | (simp; done))) rfl rfl ?_; clear hf; clear a; intro a hf
        refine q_off hf (goff rfl rfl rfl (by first | assumption | rfl | (simp; done))) rfl rfl ?_; clear hf; clear a; intro a hf
        refine q_off hf (goff rfl rfl rfl (by first | assumption | rfl | (simp; done))) rfl rfl ?_; clear hf; clear a; intro a hf
        refine q_off hf (goff rfl rfl rfl (by first | assumption | rfl | (simp; done))) rfl rfl ?_; clear hf; clear a; intro a hf
        refine q_off hf (goff rfl rfl rfl (by first | assumption | rfl | (simp; done))) rfl rfl ?_; clear hf; clear a; intro a hf
        refine q_v hf (yv_pick_f rfl (by first | assumption | rfl | (simp; done)) rfl) (.inl rfl) rfl rfl ?_; clear hf; clear a; intro a hf
        refine q_v hf (yv_assign rfl) (.inl rfl) rfl rfl ?_; clear hf; clear a; intro a hf
        refine q_end fun w hh => ?_
        refine then_n ?_
        refine sy_ret ?_
        refine ret_r hf rfl rfl ?_
        refine ⟨congrArg Value.bool ?_, hh.ext⟩
        first
          | (rw [Bool.not_not]; refine okBar_last ?_ ?_ ?_ ?_ ?_ ?_ ?_ ?_ ?_ <;> omega)
          | (refine okBar_no fun hV => ?_
             have h1 := hV.s1; have h2 := hV.s2; have h3 := hV.p1; have h4 := hV.p2; have h5 := hV.k1; have h6 := hV.k2; have h7 := hV.m1; have h8 := hV.m2; have h9 := hV.n
             have h10 := hpw h1 h2
             omega)
    · have hG4 := hg4; try simp only [gS] at hG4
      refine ops_off hf (goff rfl rfl rfl (by first | assumption | rfl | (simp; done))) rfl rfl ?_; clear hf; clear a; intro a hf
      refine ops_off hf (goff rfl rfl rfl (by first | assumption | rfl | (simp; done))) rfl rfl ?_; clear hf; clear a; intro a hf
      refine ops_off hf (goff rfl rfl rfl (by first | assumption | rfl | (simp; done))) rfl rfl ?_; clear hf; clear a; intro a hf
      refine ops_v hf hh (yv_pick_f rfl (by first | assumption | rfl | (simp; done)) rfl) (.inl rfl) rfl rfl rfl ?_; clear hf; clear a; intro a hf
      refine ops_v hf hh (yv_assign rfl) (.inl rfl) rfl rfl rfl ?_; clear hf; clear a; intro a hf
      refine ops_end ?_
      refine then_n ?_
      refine sy_seq ?_
      refine sy_quiet (C := Hp _ _ _) Tryz.follows (by kernel_rfl) (hh.drawn _) ?_
      refine q_v hf (yv_move rfl) (.inl rfl) rfl rfl ?_; clear hf; clear a; intro a hf
      refine q_v hf (yv_move rfl) (.inl rfl) rfl rfl ?_; clear hf; clear a; intro a hf
      refine q_off hf (goff rfl rfl rfl (by first | assumption | rfl | (simp; done))) rfl rfl ?_; clear hf; clear a; intro a hf
      refine q_off hf (goff rfl rfl rfl (by first | assumption | rfl | (simp; done))) rfl rfl ?_; clear hf; clear a; intro a hf
      refine q_off hf (goff rfl rfl rfl (by first | assumption | rfl | (simp; done))) rfl rfl ?_; clear hf; clear a; intro a hf
      refine q_off hf (goff rfl rfl rfl (by first | assumption | rfl | (simp; done))) rfl rfl ?_; clear hf; clear a; intro a hf
      refine q_off hf (goff rfl rfl rfl (by first | assumption | rfl | (simp; done))) rfl rfl ?_; clear hf; clear a; intro a hf
      refine q_off hf (goff rfl rfl rfl (by first | assumption | rfl | (simp; done))) rfl rfl ?_; clear hf; clear a; intro a hf
      refine q_off hf (goff rfl rfl rfl (by first | assumption | rfl | (simp; done))) rfl rfl ?_; clear hf; clear a; intro a hf
      refine q_v hf (yv_pick_f rfl (by first | assumption | rfl | (simp; done)) rfl) (.inl rfl) rfl rfl ?_; clear hf; clear a; intro a hf
      refine q_v hf (yv_move rfl) (.inl rfl) rfl rfl ?_; clear hf; clear a; intro a hf
      refine q_off hf (goff rfl rfl rfl (by first | assumption | rfl | (simp; done))) rfl rfl ?_; clear hf; clear a; intro a hf
      refine q_off hf (goff rfl rfl rfl (by first | assumption | rfl | (simp; done))) rfl rfl ?_; clear hf; clear a; intro a hf
      refine q_off hf (goff rfl rfl rfl (by first | assumption | rfl | (simp; done))) rfl rfl ?_; clear hf; clear a; intro a hf
      refine q_off hf (goff rfl rfl rfl (by first | assumption | rfl | (simp; done))) rfl rfl ?_; clear hf; clear a; intro a hf
      refine q_v hf (yv_pick_f rfl (by first | assumption | rfl | (simp; done)) rfl) (.inl rfl) rfl rfl ?_; clear hf; clear a; intro a hf
      refine q_v hf (yv_move rfl) (.inl rfl) rfl rfl ?_; clear hf; clear a; intro a hf
      refine q_off hf (goff rfl rfl rfl (by first | assumption | rfl | (simp; done))) rfl rfl ?_; clear hf; clear a; intro a hf
      refine q_off hf (goff rfl rfl rfl (by first | assumption | rfl | (simp; done))) rfl rfl ?_; clear hf; clear a; intro a hf
      refine q_off hf (goff rfl rfl rfl (by first | assumption | rfl | (simp; done))) rfl rfl ?_; clear hf; clear a; intro a hf
      refine q_off hf (goff rfl rfl rfl (by first | assumption | rfl | (simp; done))) rfl rfl ?_; clear hf; clear a; intro a hf
      refine q_off hf (goff rfl rfl rfl (by first | assumption | rfl | (simp; done))) rfl rfl ?_; clear hf; clear a; intro a hf
      refine q_v hf (yv_pick_f rfl (by first | assumption | rfl | (simp; done)) rfl) (.inl rfl) rfl rfl ?_; clear hf; clear a; intro a hf
      refine q_v hf (yv_assign rfl) (.inl rfl) rfl rfl ?_; clear hf; clear a; intro a hf
      refine q_end fun w hh => ?_
      refine then_n ?_
      refine sy_ret ?_
      refine ret_r hf rfl rfl ?_
      refine ⟨congrArg Value.bool ?_, hh.ext⟩
      first
        | (rw [Bool.not_not]; refine okBar_last ?_ ?_ ?_ ?_ ?_ ?_ ?_ ?_ ?_ <;> omega)
        | (refine okBar_no fun hV => ?_
           have h1 := hV.s1; have h2 := hV.s2; have h3 := hV.p1; have h4 := hV.p2; have h5 := hV.k1; have h6 := hV.k2; have h7 := hV.m1; have h8 := hV.m2; have h9 := hV.n
           have h10 := hpw h1 h2
           omega)
  · have hG2 := hg2; try simp only [gS] at hG2
    refine ops_off hf (goff rfl rfl rfl (by first | assumption | rfl | (simp; done))) rfl rfl ?_; clear hf; clear a; intro a hf
    refine ops_off hf (goff rfl rfl rfl (by first | assumption | rfl | (simp; done))) rfl rfl ?_; clear hf; clear a; intro a hf
    refine ops_off hf (goff rfl rfl rfl (by first | assumption | rfl | (simp; done))) rfl rfl ?_; clear hf; clear a; intro a hf
    refine ops_v hf hh (yv_pick_f rfl (by first | assumption | rfl | (simp; done)) rfl) (.inl rfl) rfl rfl rfl ?_; clear hf; clear a; intro a hf
    refine ops_v hf hh (yv_move rfl) (.inl rfl) rfl rfl rfl ?_; clear hf; clear a; intro a hf
    refine ops_off hf (goff rfl rfl rfl (by first | assumption | rfl | (simp; done))) rfl rfl ?_; clear hf; clear a; intro a hf
    refine ops_off hf (goff rfl rfl rfl (by first | assumption | rfl | (simp; done))) rfl rfl ?_; clear hf; clear a; intro a hf
    refine ops_off hf (goff rfl rfl rfl (by first | assumption | rfl | (simp; done))) rfl rfl ?_; clear hf; clear a; intro a hf
    refine ops_v hf hh (yv_pick_f rfl (by first | assumption | rfl | (simp; done)) rfl) (.inl rfl) rfl rfl rfl ?_; clear hf; clear a; intro a hf
    refine ops_v hf hh (yv_assign rfl) (.inl rfl) rfl rfl rfl ?_; clear hf; clear a; intro a hf
    refine ops_end ?_
    refine then_n ?_
    refine sy_seq ?_
    refine sy_quiet (C := Hp _ _ _) Tryz.follows (by kernel_rfl) (hh.drawn _) ?_
    refine q_v hf (yv_move rfl) (.inl rfl) rfl rfl ?_; clear hf; clear a; intro a hf
    refine q_v hf (yv_move rfl) (.inl rfl) rfl rfl ?_; clear hf; clear a; intro a hf
    refine q_off hf (goff rfl rfl rfl (by first | assumption | rfl | (simp; done))) rfl rfl ?_; clear hf; clear a; intro a hf
    refine q_off hf (goff rfl rfl rfl (by first | assumption | rfl | (simp; done))) rfl rfl ?_; clear hf; clear a; intro a hf
    refine q_off hf (goff rfl rfl rfl (by first | assumption | rfl | (simp; done))) rfl rfl ?_; clear hf; clear a; intro a hf
    refine q_off hf (goff rfl rfl rfl (by first | assumption | rfl | (simp; done))) rfl rfl ?_; clear hf; clear a; intro a hf
    refine q_off hf (goff rfl rfl rfl (by first | assumption | rfl | (simp; done))) rfl rfl ?_; clear hf; clear a; intro a hf
    refine q_off hf (goff rfl rfl rfl (by first | assumption | rfl | (simp; done))) rfl rfl ?_; clear hf; clear a; intro a hf
    refine q_off hf (goff rfl rfl rfl (by first | assumption | rfl | (simp; done))) rfl rfl ?_; clear hf; clear a; intro a hf
    refine q_v hf (yv_pick_f rfl (by first | assumption | rfl | (simp; done)) rfl) (.inl rfl) rfl rfl ?_; clear hf; clear a; intro a hf
    refine q_v hf (yv_move rfl) (.inl rfl) rfl rfl ?_; clear hf; clear a; intro a hf
    refine q_off hf (goff rfl rfl rfl (by first | assumption | rfl | (simp; done))) rfl rfl ?_; clear hf; clear a; intro a hf
    refine q_off hf (goff rfl rfl rfl (by first | assumption | rfl | (simp; done))) rfl rfl ?_; clear hf; clear a; intro a hf
    refine q_off hf (goff rfl rfl rfl (by first | assumption | rfl | (simp; done))) rfl rfl ?_; clear hf; clear a; intro a hf
    refine q_off hf (goff rfl rfl rfl (by first | assumption | rfl | (simp; done))) rfl rfl ?_; clear hf; clear a; intro a hf
    refine q_v hf (yv_pick_f rfl (by first | assumption | rfl | (simp; done)) rfl) (.inl rfl) rfl rfl ?_; clear hf; clear a; intro a hf
    refine q_v hf (yv_move rfl) (.inl rfl) rfl rfl ?_; clear hf; clear a; intro a hf
    refine q_off hf (goff rfl rfl rfl (by first | assumption | rfl | (simp; done))) rfl rfl ?_; clear hf; clear a; intro a hf
    refine q_off hf (goff rfl rfl rfl (by first | assumption | rfl | (simp; done))) rfl rfl ?_; clear hf; clear a; intro a hf
    refine q_off hf (goff rfl rfl rfl (by first | assumption | rfl | (simp; done))) rfl rfl ?_; clear hf; clear a; intro a hf
    refine q_off hf (goff rfl rfl rfl (by first | assumption | rfl | (simp; done))) rfl rfl ?_; clear hf; clear a; intro a hf
    refine q_off hf (goff rfl rfl rfl (by first | assumption | rfl | (simp; done))) rfl rfl ?_; clear hf; clear a; intro a hf
    refine q_v hf (yv_pick_f rfl (by first | assumption | rfl | (simp; done)) rfl) (.inl rfl) rfl rfl ?_; clear hf; clear a; intro a hf
    refine q_v hf (yv_assign rfl) (.inl rfl) rfl rfl ?_; clear hf; clear a; intro a hf
    refine q_end fun w hh => ?_
    refine then_n ?_
    refine sy_ret ?_
    refine ret_r hf rfl rfl ?_
    refine ⟨congrArg Value.bool ?_, hh.ext⟩
    first
      | (rw [Bool.not_not]; refine okBar_last ?_ ?_ ?_ ?_ ?_ ?_ ?_ ?_ ?_ <;> omega)
      | (refine okBar_no fun hV => ?_
         have h1 := hV.s1; have h2 := hV.s2; have h3 := hV.p1; have h4 := hV.p2; have h5 := hV.k1; have h6 := hV.k2; have h7 := hV.m1; have h8 := hV.m2; have h9 := hV.n
         have h10 := hpw h1 h2
         omega)
end Go.Proofs.YtccpgpnekoncoaaGreatDoor

namespace Go.Proofs.YtccpgpnekoncoaaGreatDoor
open Go Go.Sy Go.BarM
theorem spl_get (c : Array Value) (off : Nat) (vs : List Value) (j : Nat) (h : off + vs.length ≤ c.size) : (spl c off vs)[j]? = if j < off then c[j]? else if j < off + vs.length then vs[j - off]? else c[j]? := by
  unfold spl
  rw [List.getElem?_toArray]
  by_cases h1 : j < off
  · rw [if_pos h1, List.append_assoc, List.getElem?_append_left (by simp; omega), List.getElem?_take_of_lt h1, Array.getElem?_toList]
  · rw [if_neg h1]
    by_cases h2 : j < off + vs.length
    · rw [if_pos h2, List.getElem?_append_left (by simp; omega), List.getElem?_append_right (by simp; omega)]
      congr 1; simp; omega
    · rw [if_neg h2, List.getElem?_append_right (by simp; omega), List.getElem?_drop, Array.getElem?_toList]
      congr 1; simp; omega
theorem spl_size (c : Array Value) (off : Nat) (vs : List Value) (h : off + vs.length ≤ c.size) : (spl c off vs).size = c.size := by
  unfold spl; simp; omega
/-- The fewest, and the most, slots by which two pictures of a scene can be apart. -/
def loS (b : BarD) (s : Scn) : Int := max 1 ((s.least + b.pitch - 1) / b.pitch)
def hiS (b : BarD) (s : Scn) : Int := min (b.slots - 1) (s.most / b.pitch)
theorem loS_bd {b : BarD} {s : Scn} (hV : Valid b) (hO : OkS s) : 1 ≤ loS b s ∧ loS b s ≤ 20000 := by
  have h1 := hV.p1; have h2 := hV.p2; have h3 := hO.l1; have h4 := hO.l2
  have h5 := Int.ediv_le_self b.pitch (show 0 ≤ s.least + b.pitch - 1 by omega)
  unfold loS; omega
theorem hiS_bd {b : BarD} {s : Scn} (hV : Valid b) (hO : OkS s) : 0 ≤ hiS b s ∧ hiS b s ≤ b.slots - 1 := by
  have h1 := hV.p1; have h2 := hV.s1; have h3 := hO.m1; have h4 := hO.l1
  have h5 := Int.ediv_nonneg (show 0 ≤ s.most by omega) (show 0 ≤ b.pitch by omega)
  unfold hiS; omega
/-- What an opened bar holds, the first k scenes looked at. -/
structure BarC (b : BarD) (sa : Option Addr) (sc bm k : Nat) (cs : Array Value) : Prop where
  size : cs.size = 26
  c0 : cs[0]? = some (.int .i64 b.slots)
  c1 : cs[1]? = some (.int .i64 b.pitch)
  c2 : cs[2]? = some (.int .i64 b.broken)
  c3 : cs[3]? = some (.int .i64 b.most)
  c4 : cs[4]? = some (.slice sa b.scenes.length sc)
  c25 : cs[25]? = some (.map (some bm))
  lo : ∀ i s, i < k → b.scenes[i]? = some s → cs[5 + i * 2]? = some (.int .i64 (loS b s))
  hi : ∀ i s, i < k → b.scenes[i]? = some s → cs[5 + i * 2 + 1]? = some (.int .i64 (hiS b s))
theorem BarC.step {b : BarD} {sa : Option Addr} {sc bm k : Nat} {cs : Array Value} (h : BarC b sa sc bm k cs) {s : Scn} (hs : b.scenes[k]? = some s) (hk : k < 10) :
    BarC b sa sc bm (k + 1) (spl cs (5 + k * 2) [.int .i64 (loS b s), .int .i64 (hiS b s)]) := by
  have hz := h.size
  have g := fun j => spl_get cs (5 + k * 2) [.int .i64 (loS b s), .int .i64 (hiS b s)] j (by simp; omega)
  refine ⟨by rw [spl_size _ _ _ (by simp; omega)]; exact hz, ?_, ?_, ?_, ?_, ?_, ?_, ?_, ?_⟩
  · rw [g, if_pos (by omega)]; exact h.c0
  · rw [g, if_pos (by omega)]; exact h.c1
  · rw [g, if_pos (by omega)]; exact h.c2
  · rw [g, if_pos (by omega)]; exact h.c3
  · rw [g, if_pos (by omega)]; exact h.c4
  · rw [g, if_neg (by omega), if_neg (by simp; omega)]; exact h.c25
  · intro i t hi ht
    by_cases hik : i = k
    · subst hik; rw [hs] at ht; cases ht
      rw [g, if_neg (by omega), if_pos (by simp)]; simp
    · rw [g, if_pos (by omega)]; exact h.lo i t (by omega) ht
  · intro i t hi ht
    by_cases hik : i = k
    · subst hik; rw [hs] at ht; cases ht
      rw [g, if_neg (by omega), if_pos (by simp)]; simp [show 5 + i * 2 + 1 - (5 + i * 2) = 1 by omega]
    · rw [g, if_pos (by omega)]; exact h.hi i t (by omega) ht
theorem c59v (b : BarD) (sa : Option Addr) (sc : Nat) (o : Bool) (ho : okBar b = o) (w : World) (hS : ScAt w sa b.scenes) : Calls Tryz.prog 56 #[barV b sa sc] w (Ret fun v w' => v = .bool o ∧ Ext [] w w') := by
  subst ho; exact c59 b sa sc w hS
theorem c35n (b : BarD) (sa : Option Addr) (sc : Nat) (w : World) (hS : ScAt w sa b.scenes) (hb : okBar b = false) : Calls Tryz.prog 20 #[barV b sa sc] w (Ret fun v w' => v = .tuple #[.pointer none, .int .i64 1] ∧ Ext [] w w') := by
  refine calls_of Tryz.func20 rfl rfl (fun a hf => ?_)
  have hh := Hp.init w []
  refine sy_seq ?_
  refine sy_ops ?_
  refine ops_box hf hh rfl (.inl rfl) rfl ?_; clear hf hh; clear a; intro B1 a w hf hh
  refine ops_v hf hh (yv_assign rfl) (.inl rfl) rfl rfl rfl ?_; clear hf; clear a; intro a hf
  refine ops_v hf hh (yv_assign rfl) (.inl rfl) rfl rfl rfl ?_; clear hf; clear a; intro a hf
  refine ops_end ?_
  refine then_n ?_
  refine sy_seq ?_
  refine sy_seq ?_
  refine sy_ops ?_
  refine ops_v hf hh (yv_loads Tryz.ag_24 rfl (fun _ h => by first | exact h.at (i := 0) rfl | exact h.at (i := 1) rfl | exact h.at (i := 2) rfl | exact h.at (i := 3) rfl) (by first | assumption | rfl)) (.inl rfl) rfl rfl rfl ?_; clear hf; clear a; intro a hf
  refine ops_call hf Tryz.en_56 rfl rfl rfl (.inl rfl) rfl (c59v b sa sc false hb _ (hS.ext hh.ext)) ?_; clear hf; clear a; intro v a w hR hf
  obtain ⟨rfl, hx⟩ := hR; replace hh := hh.more hx; clear hx
  refine ops_v hf hh (yv_not rfl) (.inl rfl) rfl rfl rfl ?_; clear hf; clear a; intro a hf
  refine ops_end ?_
  refine then_n ?_
  refine sy_ct hf rfl (by first | assumption | rfl | (simp; done)) ?_
  refine sy_seq ?_
  refine sy_ops ?_
  refine ops_v hf hh (yv_assign rfl) (.inl rfl) rfl rfl rfl ?_; clear hf; clear a; intro a hf
  refine ops_v hf hh (yv_assign rfl) (.inl rfl) rfl rfl rfl ?_; clear hf; clear a; intro a hf
  refine ops_end ?_
  refine then_n ?_
  refine sy_ret ?_
  refine then_r ?_
  refine ret_r hf rfl rfl ?_
  exact ⟨rfl, hh.ext⟩
theorem c35 (b : BarD) (sa : Option Addr) (sc : Nat) (u : World) (hS : ScAt u sa b.scenes) (hV : Valid b) : Calls Tryz.prog 20 #[barV b sa sc] u
    (Ret fun v w' => ∃ bp bm cs, v = .tuple #[ptr bp 0, .int .i64 0] ∧ BarC b sa sc bm b.scenes.length cs ∧ Hp u [] [(bp, .cells cs 128), (bm, .map #[] 0)] w') := by
  refine calls_of Tryz.func20 rfl rfl (fun a hf => ?_)
  have hh := Hp.init u []
  have hn := hV.n; have h1 := hV.p1; have h2 := hV.p2; have h3 := hV.s1; have h4 := hV.s2
  refine sy_seq ?_
  refine sy_ops ?_
  refine ops_box hf hh rfl (.inl rfl) rfl ?_; clear hf hh; clear a; intro B1 a w hf hh
  refine ops_v hf hh (yv_assign rfl) (.inl rfl) rfl rfl rfl ?_; clear hf; clear a; intro a hf
  refine ops_v hf hh (yv_assign rfl) (.inl rfl) rfl rfl rfl ?_; clear hf; clear a; intro a hf
  refine ops_end ?_
  refine then_n ?_
  refine sy_seq ?_
  refine sy_seq ?_
  refine sy_ops ?_
  refine ops_v hf hh (yv_loads Tryz.ag_24 rfl (fun _ h => by first | exact h.at (i := 0) rfl | exact h.at (i := 1) rfl | exact h.at (i := 2) rfl | exact h.at (i := 3) rfl | exact h.at (i := 4) rfl | exact h.old hb) (by first | assumption | rfl)) (.inl rfl) rfl rfl rfl ?_; clear hf; clear a; intro a hf
  refine ops_call hf Tryz.en_56 rfl rfl rfl (.inl rfl) rfl (c59v b sa sc true ((okBar_iff b).2 hV) _ (hS.ext hh.ext)) ?_; clear hf; clear a; intro v a w hR hf
  obtain ⟨rfl, hx⟩ := hR; replace hh := hh.more hx; clear hx
  refine ops_v hf hh (yv_not rfl) (.inl rfl) rfl rfl rfl ?_; clear hf; clear a; intro a hf
  refine ops_end ?_
  refine then_n ?_
  refine sy_cf hf rfl (by first | assumption | rfl | (simp; done)) ?_
  refine sy_skip ?_
  refine then_n ?_
  refine sy_seq ?_
  refine sy_ops ?_
  refine ops_v hf hh (yv_loads Tryz.ag_24 rfl (fun _ h => by first | exact h.at (i := 0) rfl | exact h.at (i := 1) rfl | exact h.at (i := 2) rfl | exact h.at (i := 3) rfl | exact h.at (i := 4) rfl | exact h.old hb) (by first | assumption | rfl)) (.inl rfl) rfl rfl rfl ?_; clear hf; clear a; intro a hf
  refine ops_makeMap hf hh (.inl rfl) rfl ?_; clear hf hh; clear a; intro B11 a w hf hh
  refine ops_v hf hh (yv_buildS Tryz.bs_128 rfl rfl) (.inl rfl) rfl rfl rfl ?_; clear hf; clear a; intro a hf
  refine ops_box hf hh rfl (.inl rfl) rfl ?_; clear hf hh; clear a; intro B13 a w hf hh
  refine ops_v hf hh (yv_assign rfl) (.inl rfl) rfl rfl rfl ?_; clear hf; clear a; intro a hf
  refine ops_end ?_
  refine then_n ?_
  refine sy_seq ?_
  refine sy_seq ?_
  refine sy_ops ?_
  refine ops_v hf hh (yv_fieldAddr Tryz.fo_24_4 rfl) (.inl rfl) rfl rfl rfl ?_; clear hf; clear a; intro a hf
  refine ops_v hf hh (yv_load Tryz.sc_22 rfl (fun _ h => by first | exact h.at (i := 0) rfl | exact h.at (i := 1) rfl | exact h.at (i := 2) rfl | exact h.at (i := 3) rfl | exact h.at (i := 4) rfl | exact h.old hb) (by first | rfl | assumption)) (.inl rfl) rfl rfl rfl ?_; clear hf; clear a; intro a hf
  refine ops_v hf hh (yv_len Tryz.se_22 rfl) (.inl rfl) rfl rfl rfl ?_; clear hf; clear a; intro a hf
  refine ops_v hf hh (yv_move rfl) (.inl rfl) rfl rfl rfl ?_; clear hf; clear a; intro a hf
  refine ops_end ?_
  refine then_n ?_
  refine sy_block ?_
  refine sy_loopH (σ := Nat) [5, 6, 17, 18, 19, 20, 21, 22, 23, 24, 25, 26, 27, 28, 29, 30, 31, 32, 33, 34, 35, 36, 37, 38, 39, 40, 41, 42, 43, 44, 45, 46, 47] (fun k => [(17, .int .i64 k)]) (fun k => fun w' => k ≤ b.scenes.length ∧ ∃ cs, BarC b sa sc B11 k cs ∧ Hp u [] [(B13, .cells cs 128), (B11, .map #[] 0), (B1, .cells #[.int .i64 b.slots, .int .i64 b.pitch, .int .i64 b.broken, .int .i64 b.most, .slice sa b.scenes.length sc] 24)] w') (fun k => b.scenes.length - k) (0) hf ?_ ?_ ?_
  · repeat' (first | exact True.intro | refine And.intro rfl ?_)
  · refine ⟨by omega, _, ?_, by exact hh⟩
    exact ⟨rfl, rfl, rfl, rfl, rfl, rfl, rfl, fun i s hi => by omega, fun i s hi => by omega⟩
  · rintro k a w ⟨hq1, cs, hcs, hh⟩ hf
    refine sy_seq ?_
    refine sy_ops ?_
    refine ops_v hf hh (yv_bin rfl rfl rfl) (.inl rfl) rfl rfl rfl ?_; clear hf; clear a; intro a hf
    refine ops_end ?_
    refine then_n ?_
    refine sy_seq ?_
    refine sy_cond hf rfl (fun hg3 => ?_) (fun hg3 => ?_)
    · have hG3 := hg3; try simp only [gS] at hG3
      refine sy_skip ?_
      refine then_n ?_
      refine sy_seq ?_
      refine sy_block ?_
      refine sy_seq ?_
      obtain ⟨s, hs⟩ := scn_of (l := b.scenes) (i := k) (by omega)
      have hO := hV.sc s (List.mem_of_getElem? hs)
      have g1 := hO.l1; have g2 := hO.l2; have g3 := hO.m1; have g4 := hO.m2
      obtain ⟨blk, off, c, T, fr, e, hb, hc⟩ := hS k s hs; cases e
      refine sy_ops ?_
      refine ops_v hf hh (yv_move rfl) (.inl rfl) rfl rfl rfl ?_; clear hf; clear a; intro a hf
      refine ops_v hf hh (yv_indexAddr Tryz.se_22 rfl rfl (by omega) (by omega)) (.inl rfl) rfl rfl rfl ?_; clear hf; clear a; intro a hf
      refine ops_v hf hh (yv_loads Tryz.ag_33 rfl (fun _ h => by first | exact h.at (i := 0) rfl | exact h.at (i := 1) rfl | exact h.at (i := 2) rfl | exact h.at (i := 3) rfl | exact h.at (i := 4) rfl | exact h.old hb) (by first | assumption | rfl)) (.inl rfl) rfl rfl rfl ?_; clear hf; clear a; intro a hf
      refine ops_alloc hf hh Tryz.ze_33 (.inl rfl) rfl ?_; clear hf hh; clear a; intro B6 a w hf hh
      refine ops_v hf hh (yv_assign rfl) (.inl rfl) rfl rfl rfl ?_; clear hf; clear a; intro a hf
      first | refine ops_store (i := 0) hf hh rfl rfl rfl Tryz.sz_33 rfl rfl rfl (.inl rfl) fun w hh => ?_ | refine ops_store (i := 1) hf hh rfl rfl rfl Tryz.sz_33 rfl rfl rfl (.inl rfl) fun w hh => ?_ | refine ops_store (i := 2) hf hh rfl rfl rfl Tryz.sz_33 rfl rfl rfl (.inl rfl) fun w hh => ?_ | refine ops_store (i := 3) hf hh rfl rfl rfl Tryz.sz_33 rfl rfl rfl (.inl rfl) fun w hh => ?_ | refine ops_store (i := 4) hf hh rfl rfl rfl Tryz.sz_33 rfl rfl rfl (.inl rfl) fun w hh => ?_
      refine ops_end ?_
      refine then_n ?_
      refine sy_tail (C := Hp _ _ _) 25 Tryz.follows (by kernel_rfl) rfl rfl (hh.drawn _) ?_
      refine q_v hf (yv_move rfl) (.inl rfl) rfl rfl ?_; clear hf; clear a; intro a hf
      refine q_v hf (yv_move rfl) (.inl rfl) rfl rfl ?_; clear hf; clear a; intro a hf
      refine q_v hf (yv_fieldAddr Tryz.fo_33_0 rfl) (.inl rfl) rfl rfl ?_; clear hf; clear a; intro a hf
      refine q_v hf (yv_load Tryz.sc_3 rfl (fun _ h => by first | exact h.at (i := 0) rfl | exact h.at (i := 1) rfl | exact h.at (i := 2) rfl | exact h.at (i := 3) rfl | exact h.at (i := 4) rfl | exact h.old hb) (by first | rfl | assumption)) (.inl rfl) rfl rfl ?_; clear hf; clear a; intro a hf
      refine q_v hf (yv_fieldAddr Tryz.fo_24_1 rfl) (.inl rfl) rfl rfl ?_; clear hf; clear a; intro a hf
      refine q_v hf (yv_load Tryz.sc_3 rfl (fun _ h => by first | exact h.at (i := 0) rfl | exact h.at (i := 1) rfl | exact h.at (i := 2) rfl | exact h.at (i := 3) rfl | exact h.at (i := 4) rfl | exact h.old hb) (by first | rfl | assumption)) (.inl rfl) rfl rfl ?_; clear hf; clear a; intro a hf
      first | refine q_v hf (yv_add rfl rfl (by omega) (by omega)) (.inl rfl) rfl rfl ?_; clear hf; clear a; intro a hf | refine q_v hf (yv_bin rfl rfl rfl) (.inl rfl) rfl rfl ?_; clear hf; clear a; intro a hf
      first | refine q_v hf (yv_sub rfl rfl (by omega) (by omega)) (.inl rfl) rfl rfl ?_; clear hf; clear a; intro a hf | refine q_v hf (yv_bin rfl rfl rfl) (.inl rfl) rfl rfl ?_; clear hf; clear a; intro a hf
      refine q_v hf (yv_fieldAddr Tryz.fo_24_1 rfl) (.inl rfl) rfl rfl ?_; clear hf; clear a; intro a hf
      refine q_v hf (yv_load Tryz.sc_3 rfl (fun _ h => by first | exact h.at (i := 0) rfl | exact h.at (i := 1) rfl | exact h.at (i := 2) rfl | exact h.at (i := 3) rfl | exact h.at (i := 4) rfl | exact h.old hb) (by first | rfl | assumption)) (.inl rfl) rfl rfl ?_; clear hf; clear a; intro a hf
      refine q_v hf (yv_quo rfl rfl (by omega) (by omega) (by omega)) (.inl rfl) rfl rfl ?_; clear hf; clear a; intro a hf
      refine q_v hf (yv_max rfl rfl) (.inl rfl) rfl rfl ?_; clear hf; clear a; intro a hf
      refine q_v hf (yv_fieldAddr Tryz.fo_24_0 rfl) (.inl rfl) rfl rfl ?_; clear hf; clear a; intro a hf
      refine q_v hf (yv_load Tryz.sc_3 rfl (fun _ h => by first | exact h.at (i := 0) rfl | exact h.at (i := 1) rfl | exact h.at (i := 2) rfl | exact h.at (i := 3) rfl | exact h.at (i := 4) rfl | exact h.old hb) (by first | rfl | assumption)) (.inl rfl) rfl rfl ?_; clear hf; clear a; intro a hf
      first | refine q_v hf (yv_sub rfl rfl (by omega) (by omega)) (.inl rfl) rfl rfl ?_; clear hf; clear a; intro a hf | refine q_v hf (yv_bin rfl rfl rfl) (.inl rfl) rfl rfl ?_; clear hf; clear a; intro a hf
      refine q_v hf (yv_fieldAddr Tryz.fo_33_1 rfl) (.inl rfl) rfl rfl ?_; clear hf; clear a; intro a hf
      refine q_v hf (yv_load Tryz.sc_3 rfl (fun _ h => by first | exact h.at (i := 0) rfl | exact h.at (i := 1) rfl | exact h.at (i := 2) rfl | exact h.at (i := 3) rfl | exact h.at (i := 4) rfl | exact h.old hb) (by first | rfl | assumption)) (.inl rfl) rfl rfl ?_; clear hf; clear a; intro a hf
      refine q_v hf (yv_fieldAddr Tryz.fo_24_1 rfl) (.inl rfl) rfl rfl ?_; clear hf; clear a; intro a hf
      refine q_v hf (yv_load Tryz.sc_3 rfl (fun _ h => by first | exact h.at (i := 0) rfl | exact h.at (i := 1) rfl | exact h.at (i := 2) rfl | exact h.at (i := 3) rfl | exact h.at (i := 4) rfl | exact h.old hb) (by first | rfl | assumption)) (.inl rfl) rfl rfl ?_; clear hf; clear a; intro a hf
      refine q_v hf (yv_quo rfl rfl (by omega) (by omega) (by omega)) (.inl rfl) rfl rfl ?_; clear hf; clear a; intro a hf
      refine q_v hf (yv_min rfl rfl) (.inl rfl) rfl rfl ?_; clear hf; clear a; intro a hf
      refine q_v hf (yv_buildA Tryz.ba_83 rfl rfl) (.inl rfl) rfl rfl ?_; clear hf; clear a; intro a hf
      refine q_v hf (yv_nilCheck rfl) (.inl rfl) rfl rfl ?_; clear hf; clear a; intro a hf
      refine q_v hf (yv_fieldAddr Tryz.fo_128_1 rfl) (.inl rfl) rfl rfl ?_; clear hf; clear a; intro a hf
      refine q_v hf (yv_indexArr Tryz.ae_126 rfl rfl (by omega) (by omega)) (.inl rfl) rfl rfl ?_; clear hf; clear a; intro a hf
      refine q_end fun w hh => ?_
      refine ops_store (i := 1) hf hh rfl rfl rfl Tryz.sz_83 rfl rfl (by have hz := hcs.size; exact Nat.ble_eq_true_of_le (by rw [hz]; show 0 + 5 + ((k : Nat) : Int).toNat * 2 + 2 ≤ 26; simp; omega)) (.inl rfl) fun w hh => ?_
      refine ops_end ?_
      refine blk_n ?_
      refine then_n ?_
      refine sy_ops ?_
      first | refine ops_v hf hh (yv_add rfl rfl (by omega) (by omega)) (.inl rfl) rfl rfl rfl ?_; clear hf; clear a; intro a hf | refine ops_v hf hh (yv_bin rfl rfl rfl) (.inl rfl) rfl rfl rfl ?_; clear hf; clear a; intro a hf
      refine ops_v hf hh (yv_move rfl) (.inl rfl) rfl rfl rfl ?_; clear hf; clear a; intro a hf
      refine ops_end ?_
      refine then_n ?_
      have hst := hcs.step hs (by omega)
      refine ⟨k + 1, ⟨⟨by omega, _, hst, ?_⟩, hf.head ⟨rfl, True.intro⟩ (Keep.cons rfl (Keep.cons rfl (Keep.cons rfl (Keep.cons rfl (Keep.cons rfl (Keep.cons rfl (Keep.cons rfl (Keep.cons rfl (Keep.cons rfl (Keep.cons rfl (Keep.cons rfl (Keep.cons rfl (Keep.cons rfl (Keep.cons rfl (Keep.cons rfl (Keep.cons rfl (Keep.cons rfl (Keep.cons rfl (Keep.cons rfl (Keep.cons rfl (Keep.cons rfl (Keep.cons rfl (Keep.cons rfl (Keep.cons rfl (Keep.cons rfl (Keep.cons rfl (Keep.cons rfl (Keep.cons rfl (Keep.cons rfl (Keep.cons rfl (Keep.cons rfl (Keep.cons rfl (Keep.cons rfl (Keep.app rfl (Keep.rm rfl Keep.base)))))))))))))))))))))))))))))))))))⟩, by omega⟩
      simp only [Int.toNat_natCast, Nat.zero_add] at hh
      exact hh.less (.cons _ (List.Sublist.refl _))
    · have hG3 := hg3; try simp only [gS] at hG3
      refine sy_exit ?_
      refine then_e ?_
      refine then_e ?_
      refine blk_e ?_
      refine then_n ?_
      refine sy_seq ?_
      refine sy_ops ?_
      refine ops_v hf hh (yv_move rfl) (.inl rfl) rfl rfl rfl ?_; clear hf; clear a; intro a hf
      refine ops_v hf hh (yv_assign rfl) (.inl rfl) rfl rfl rfl ?_; clear hf; clear a; intro a hf
      refine ops_v hf hh (yv_assign rfl) (.inl rfl) rfl rfl rfl ?_; clear hf; clear a; intro a hf
      refine ops_end ?_
      refine then_n ?_
      refine sy_ret ?_
      refine ret_r hf rfl rfl ?_
      have : k = b.scenes.length := by omega
      subst this
      exact ⟨B13, B11, cs, rfl, hcs, hh.less (.cons_cons _ (.cons_cons _ (.cons _ .slnil)))⟩
/-- An opened bar lies in memory. -/
def BarO (w : World) (b : BarD) (sa : Option Addr) (sc bp bm : Nat) : Prop := ∃ cs, w.heap[bp]? = some (.cells cs 128 (0, 0)) ∧ BarC b sa sc bm b.scenes.length cs
theorem BarO.ext {w w' : World} {b : BarD} {sa : Option Addr} {sc bp bm : Nat} {M : List Nat} (h : BarO w b sa sc bp bm) (e : Ext M w w') (hm : bp ∉ M) : BarO w' b sa sc bp bm :=
  let ⟨cs, h1, h2⟩ := h
  ⟨cs, e.getM h1 hm, h2⟩
theorem land_zero {p k n : Nat} (hp : p < 2 ^ n) : p &&& k = 0 ↔ ∀ j, j < n → ¬ (p.testBit j = true ∧ k.testBit j = true) := by
  constructor
  · intro h j _ ⟨h1, h2⟩
    have : (p &&& k).testBit j = true := by rw [Nat.testBit_and, h1, h2]; rfl
    rw [h] at this; simp at this
  · intro h
    apply Nat.eq_of_testBit_eq
    intro j
    rw [Nat.testBit_and, Nat.zero_testBit]
    by_cases hj : j < n
    · have := h j hj
      cases h1 : p.testBit j <;> cases h2 : k.testBit j <;> simp_all
    · rw [testBit_lt hp (by omega)]; rfl
theorem isPlan_land (b : BarD) (p : Nat) : isPlan b p = true ↔ p < 2 ^ b.slots.toNat ∧ p &&& b.broken.toNat = 0 ∧ (pc p : Int) ≤ b.most := by
  rw [isPlan_iff]
  constructor
  · rintro ⟨h1, h2, h3⟩; exact ⟨h1, (land_zero h1).2 h3, h2⟩
  · rintro ⟨h1, h2, h3⟩; exact ⟨h1, h3, (land_zero h1).1 h2⟩
theorem c36 (b : BarD) (sa : Option Addr) (sc bp bm : Nat) (p : Int) (w : World) (hV : Valid b) (hB : BarO w b sa sc bp bm) : Calls Tryz.prog 21 #[ptr bp 0, .int .i64 p] w (Ret fun v w' => v = .bool (isPlanI b p) ∧ Ext [] w w') := by
  refine calls_of Tryz.func21 rfl rfl (fun a hf => ?_)
  have hh := Hp.init w []
  obtain ⟨cs, hb, hcs⟩ := hB
  have c0 := hcs.c0; have c1 := hcs.c1; have c2 := hcs.c2; have c3 := hcs.c3; have c4 := hcs.c4
  have hs1 := hV.s1; have hs2 := hV.s2; have hk1 := hV.k1; have hk2 := hV.k2; have hn := hV.n
  have hpw := shl_bd hs1 hs2
  have hpw2 := cast_pow b.slots.toNat
  refine sy_seq ?_
  refine sy_ops ?_
  refine ops_v hf hh (yv_assign rfl) (.inl rfl) rfl rfl rfl ?_; clear hf; clear a; intro a hf
  refine ops_end ?_
  refine then_n ?_
  refine sy_seq ?_
  refine sy_quiet (C := Hp _ _ _) Tryz.follows (by kernel_rfl) (hh.drawn _) ?_
  refine q_v hf (yv_move rfl) (.inl rfl) rfl rfl ?_; clear hf; clear a; intro a hf
  refine q_v hf (yv_move rfl) (.inl rfl) rfl rfl ?_; clear hf; clear a; intro a hf
  refine q_v hf (yv_nilCheck rfl) (.inl rfl) rfl rfl ?_; clear hf; clear a; intro a hf
  refine q_v hf (yv_fieldAddr Tryz.fo_128_0 rfl) (.inl rfl) rfl rfl ?_; clear hf; clear a; intro a hf
  refine q_v hf (yv_fieldAddr Tryz.fo_24_0 rfl) (.inl rfl) rfl rfl ?_; clear hf; clear a; intro a hf
  refine q_v hf (yv_load Tryz.sc_3 rfl (fun _ h => by first | exact h.at (i := 0) rfl | exact h.old hb) (by first | rfl | assumption)) (.inl rfl) rfl rfl ?_; clear hf; clear a; intro a hf
  refine q_v hf (yv_shl1 (.inl rfl) rfl rfl (by omega) (by omega)) (.inl rfl) rfl rfl ?_; clear hf; clear a; intro a hf
  first | refine q_v hf (yv_sub rfl rfl (by omega) (by omega)) (.inl rfl) rfl rfl ?_; clear hf; clear a; intro a hf | refine q_v hf (yv_bin rfl rfl rfl) (.inl rfl) rfl rfl ?_; clear hf; clear a; intro a hf
  refine q_callE hf Tryz.en_22 rfl rfl rfl (.inl rfl) rfl (fun w hh => c40 _ _ _ _) ?_; clear hf; clear a; intro a hf
  refine q_v hf (yv_move rfl) (.inl rfl) rfl rfl ?_; clear hf; clear a; intro a hf
  refine guard_splitq hf (t := 14) rfl (fun hg2 => ?_) (fun hg2 => ?_)
  · have hG2 := hg2; try simp only [gS] at hG2
    refine q_v hf (yv_move rfl) (gon rfl rfl rfl (by first | assumption | rfl | (simp; done))) rfl rfl ?_; clear hf; clear a; intro a hf
    refine q_v hf (yv_move rfl) (gon rfl rfl rfl (by first | assumption | rfl | (simp; done))) rfl rfl ?_; clear hf; clear a; intro a hf
    refine q_v hf (yv_nilCheck rfl) (gon rfl rfl rfl (by first | assumption | rfl | (simp; done))) rfl rfl ?_; clear hf; clear a; intro a hf
    refine q_v hf (yv_fieldAddr Tryz.fo_128_0 rfl) (gon rfl rfl rfl (by first | assumption | rfl | (simp; done))) rfl rfl ?_; clear hf; clear a; intro a hf
    refine q_v hf (yv_fieldAddr Tryz.fo_24_2 rfl) (gon rfl rfl rfl (by first | assumption | rfl | (simp; done))) rfl rfl ?_; clear hf; clear a; intro a hf
    refine q_v hf (yv_load Tryz.sc_3 rfl (fun _ h => by first | exact h.at (i := 0) rfl | exact h.old hb) (by first | rfl | assumption)) (gon rfl rfl rfl (by first | assumption | rfl | (simp; done))) rfl rfl ?_; clear hf; clear a; intro a hf
    first | refine q_v hf (yv_and (.inl rfl) rfl rfl (by omega) (by simp only [IntKind.top]; omega) (by omega) (by simp only [IntKind.top]; omega)) (gon rfl rfl rfl (by first | assumption | rfl | (simp; done))) rfl rfl ?_; clear hf; clear a; intro a hf | refine q_v hf (yv_bin rfl rfl rfl) (gon rfl rfl rfl (by first | assumption | rfl | (simp; done))) rfl rfl ?_; clear hf; clear a; intro a hf
    refine q_v hf (yv_bin rfl rfl rfl) (gon rfl rfl rfl (by first | assumption | rfl | (simp; done))) rfl rfl ?_; clear hf; clear a; intro a hf
    refine q_v hf (yv_pick_t rfl (by first | assumption | rfl | (simp; done)) rfl) (.inl rfl) rfl rfl ?_; clear hf; clear a; intro a hf
    refine q_v hf (yv_move rfl) (.inl rfl) rfl rfl ?_; clear hf; clear a; intro a hf
    refine guard_splitq hf (t := 24) rfl (fun hg4 => ?_) (fun hg4 => ?_)
    · have hG4 := hg4; try simp only [gS] at hG4
      refine q_v hf (yv_move rfl) (gon rfl rfl rfl (by first | assumption | rfl | (simp; done))) rfl rfl ?_; clear hf; clear a; intro a hf
      first | refine q_v hf (yv_convx (.inr rfl) (by kernel_rfl) Tryz.un_75 rfl (by omega) (by simp only [IntKind.top]; omega)) (gon rfl rfl rfl (by first | assumption | rfl | (simp; done))) rfl rfl ?_; clear hf; clear a; intro a hf | refine q_v hf (yv_conv (by kernel_rfl) Tryz.un_75 rfl) (gon rfl rfl rfl (by first | assumption | rfl | (simp; done))) rfl rfl ?_; clear hf; clear a; intro a hf
      refine q_callE hf Tryz.en_57 rfl rfl rfl (gon rfl rfl rfl (by first | assumption | rfl | (simp; done))) rfl (fun w hh => c53i _ (by omega) (by omega) _) ?_; clear hf; clear a; intro a hf
      refine q_v hf (yv_move rfl) (gon rfl rfl rfl (by first | assumption | rfl | (simp; done))) rfl rfl ?_; clear hf; clear a; intro a hf
      refine q_v hf (yv_nilCheck rfl) (gon rfl rfl rfl (by first | assumption | rfl | (simp; done))) rfl rfl ?_; clear hf; clear a; intro a hf
      refine q_v hf (yv_fieldAddr Tryz.fo_128_0 rfl) (gon rfl rfl rfl (by first | assumption | rfl | (simp; done))) rfl rfl ?_; clear hf; clear a; intro a hf
      refine q_v hf (yv_fieldAddr Tryz.fo_24_3 rfl) (gon rfl rfl rfl (by first | assumption | rfl | (simp; done))) rfl rfl ?_; clear hf; clear a; intro a hf
      refine q_v hf (yv_load Tryz.sc_3 rfl (fun _ h => by first | exact h.at (i := 0) rfl | exact h.old hb) (by first | rfl | assumption)) (gon rfl rfl rfl (by first | assumption | rfl | (simp; done))) rfl rfl ?_; clear hf; clear a; intro a hf
      refine q_v hf (yv_bin rfl rfl rfl) (gon rfl rfl rfl (by first | assumption | rfl | (simp; done))) rfl rfl ?_; clear hf; clear a; intro a hf
      refine q_v hf (yv_pick_t rfl (by first | assumption | rfl | (simp; done)) rfl) (.inl rfl) rfl rfl ?_; clear hf; clear a; intro a hf
      refine q_v hf (yv_assign rfl) (.inl rfl) rfl rfl ?_; clear hf; clear a; intro a hf
      refine q_end fun w hh => ?_
      refine then_n ?_
      refine sy_ret ?_
      refine ret_r hf rfl rfl ?_
      refine ⟨congrArg Value.bool ?_, hh.ext⟩
      first
        | (refine isPlanI_no fun h0 hip => ?_
           have hi := (isPlan_land b p.toNat).1 hip
           have hi1 := hi.1; have hi2 := hi.2.1
           omega)
        | (have h0 : 0 ≤ p := by omega
           have hlt : p.toNat < 2 ^ b.slots.toNat := by omega
           have hla : p.toNat &&& b.broken.toNat = 0 := by omega
           have hl := isPlan_land b p.toNat
           have hpi : isPlanI b p = isPlan b p.toNat := by unfold isPlanI; simp [h0]
           rw [hpi, Bool.eq_iff_iff, hl, decide_eq_true_eq]
           exact ⟨fun h => ⟨hlt, hla, h⟩, fun h => h.2.2⟩)
    · have hG4 := hg4; try simp only [gS] at hG4
      refine q_off hf (goff rfl rfl rfl (by first | assumption | rfl | (simp; done))) rfl rfl ?_; clear hf; clear a; intro a hf
      refine q_off hf (goff rfl rfl rfl (by first | assumption | rfl | (simp; done))) rfl rfl ?_; clear hf; clear a; intro a hf
      refine q_off hf (goff rfl rfl rfl (by first | assumption | rfl | (simp; done))) rfl rfl ?_; clear hf; clear a; intro a hf
      refine q_off hf (goff rfl rfl rfl (by first | assumption | rfl | (simp; done))) rfl rfl ?_; clear hf; clear a; intro a hf
      refine q_off hf (goff rfl rfl rfl (by first | assumption | rfl | (simp; done))) rfl rfl ?_; clear hf; clear a; intro a hf
      refine q_off hf (goff rfl rfl rfl (by first | assumption | rfl | (simp; done))) rfl rfl ?_; clear hf; clear a; intro a hf
      refine q_off hf (goff rfl rfl rfl (by first | assumption | rfl | (simp; done))) rfl rfl ?_; clear hf; clear a; intro a hf
      refine q_off hf (goff rfl rfl rfl (by first | assumption | rfl | (simp; done))) rfl rfl ?_; clear hf; clear a; intro a hf
      refine q_off hf (goff rfl rfl rfl (by first | assumption | rfl | (simp; done))) rfl rfl ?_; clear hf; clear a; intro a hf
      refine q_v hf (yv_pick_f rfl (by first | assumption | rfl | (simp; done)) rfl) (.inl rfl) rfl rfl ?_; clear hf; clear a; intro a hf
      refine q_v hf (yv_assign rfl) (.inl rfl) rfl rfl ?_; clear hf; clear a; intro a hf
      refine q_end fun w hh => ?_
      refine then_n ?_
      refine sy_ret ?_
      refine ret_r hf rfl rfl ?_
      refine ⟨congrArg Value.bool ?_, hh.ext⟩
      first
        | (refine isPlanI_no fun h0 hip => ?_
           have hi := (isPlan_land b p.toNat).1 hip
           have hi1 := hi.1; have hi2 := hi.2.1
           omega)
        | (have h0 : 0 ≤ p := by omega
           have hlt : p.toNat < 2 ^ b.slots.toNat := by omega
           have hla : p.toNat &&& b.broken.toNat = 0 := by omega
           have hl := isPlan_land b p.toNat
           have hpi : isPlanI b p = isPlan b p.toNat := by unfold isPlanI; simp [h0]
           rw [hpi, Bool.eq_iff_iff, hl, decide_eq_true_eq]
           exact ⟨fun h => ⟨hlt, hla, h⟩, fun h => h.2.2⟩)
  · have hG2 := hg2; try simp only [gS] at hG2
    refine q_off hf (goff rfl rfl rfl (by first | assumption | rfl | (simp; done))) rfl rfl ?_; clear hf; clear a; intro a hf
    refine q_off hf (goff rfl rfl rfl (by first | assumption | rfl | (simp; done))) rfl rfl ?_; clear hf; clear a; intro a hf
    refine q_off hf (goff rfl rfl rfl (by first | assumption | rfl | (simp; done))) rfl rfl ?_; clear hf; clear a; intro a hf
    refine q_off hf (goff rfl rfl rfl (by first | assumption | rfl | (simp; done))) rfl rfl ?_; clear hf; clear a; intro a hf
    refine q_off hf (goff rfl rfl rfl (by first | assumption | rfl | (simp; done))) rfl rfl ?_; clear hf; clear a; intro a hf
    refine q_off hf (goff rfl rfl rfl (by first | assumption | rfl | (simp; done))) rfl rfl ?_; clear hf; clear a; intro a hf
    refine q_off hf (goff rfl rfl rfl (by first | assumption | rfl | (simp; done))) rfl rfl ?_; clear hf; clear a; intro a hf
    refine q_off hf (goff rfl rfl rfl (by first | assumption | rfl | (simp; done))) rfl rfl ?_; clear hf; clear a; intro a hf
    refine q_v hf (yv_pick_f rfl (by first | assumption | rfl | (simp; done)) rfl) (.inl rfl) rfl rfl ?_; clear hf; clear a; intro a hf
    refine q_v hf (yv_move rfl) (.inl rfl) rfl rfl ?_; clear hf; clear a; intro a hf
    refine q_off hf (goff rfl rfl rfl (by first | assumption | rfl | (simp; done))) rfl rfl ?_; clear hf; clear a; intro a hf
    refine q_off hf (goff rfl rfl rfl (by first | assumption | rfl | (simp; done))) rfl rfl ?_; clear hf; clear a; intro a hf
    refine q_off hf (goff rfl rfl rfl (by first | assumption | rfl | (simp; done))) rfl rfl ?_; clear hf; clear a; intro a hf
    refine q_off hf (goff rfl rfl rfl (by first | assumption | rfl | (simp; done))) rfl rfl ?_; clear hf; clear a; intro a hf
    refine q_off hf (goff rfl rfl rfl (by first | assumption | rfl | (simp; done))) rfl rfl ?_; clear hf; clear a; intro a hf
    refine q_off hf (goff rfl rfl rfl (by first | assumption | rfl | (simp; done))) rfl rfl ?_; clear hf; clear a; intro a hf
    refine q_off hf (goff rfl rfl rfl (by first | assumption | rfl | (simp; done))) rfl rfl ?_; clear hf; clear a; intro a hf
    refine q_off hf (goff rfl rfl rfl (by first | assumption | rfl | (simp; done))) rfl rfl ?_; clear hf; clear a; intro a hf
    refine q_off hf (goff rfl rfl rfl (by first | assumption | rfl | (simp; done))) rfl rfl ?_; clear hf; clear a; intro a hf
    refine q_v hf (yv_pick_f rfl (by first | assumption | rfl | (simp; done)) rfl) (.inl rfl) rfl rfl ?_; clear hf; clear a; intro a hf
    refine q_v hf (yv_assign rfl) (.inl rfl) rfl rfl ?_; clear hf; clear a; intro a hf
    refine q_end fun w hh => ?_
    refine then_n ?_
    refine sy_ret ?_
    refine ret_r hf rfl rfl ?_
    refine ⟨congrArg Value.bool ?_, hh.ext⟩
    first
      | (refine isPlanI_no fun h0 hip => ?_
         have hi := (isPlan_land b p.toNat).1 hip
         have hi1 := hi.1; have hi2 := hi.2.1
         omega)
      | (have h0 : 0 ≤ p := by omega
         have hlt : p.toNat < 2 ^ b.slots.toNat := by omega
         have hla : p.toNat &&& b.broken.toNat = 0 := by omega
         have hl := isPlan_land b p.toNat
         have hpi : isPlanI b p = isPlan b p.toNat := by unfold isPlanI; simp [h0]
         rw [hpi, Bool.eq_iff_iff, hl, decide_eq_true_eq]
         exact ⟨fun h => ⟨hlt, hla, h⟩, fun h => h.2.2⟩)
theorem c49 (b : BarD) (sa : Option Addr) (sc bp bm : Nat) (w : World) (hV : Valid b) (hB : BarO w b sa sc bp bm) : Calls Tryz.prog 52 #[ptr bp 0] w (Ret fun v w' => v = .int .u64 ((2 ^ b.scenes.length - 1 : Nat) : Int) ∧ Ext [] w w') := by
  refine calls_of Tryz.func52 rfl rfl (fun a hf => ?_)
  have hh := Hp.init w []
  obtain ⟨cs, hb, hcs⟩ := hB
  have c0 := hcs.c0; have c1 := hcs.c1; have c2 := hcs.c2; have c3 := hcs.c3; have c4 := hcs.c4
  have hs1 := hV.s1; have hs2 := hV.s2; have hk1 := hV.k1; have hk2 := hV.k2; have hn := hV.n
  have hpw := shl_bd hs1 hs2
  have hpw2 := cast_pow b.slots.toNat
  have hm1 : 1 ≤ 2 ^ ((b.scenes.length : Nat) : Int).toNat := Nat.one_le_two_pow
  have hm2 : 2 ^ ((b.scenes.length : Nat) : Int).toNat ≤ 2 ^ 10 := Nat.pow_le_pow_right (by omega) (by simpa using hn)
  refine sy_seq ?_
  refine sy_ops ?_
  refine ops_v hf hh (yv_assign rfl) (.inl rfl) rfl rfl rfl ?_; clear hf; clear a; intro a hf
  refine ops_end ?_
  refine then_n ?_
  refine sy_seq ?_
  refine sy_ops ?_
  refine ops_v hf hh (yv_move rfl) (.inl rfl) rfl rfl rfl ?_; clear hf; clear a; intro a hf
  refine ops_v hf hh (yv_nilCheck rfl) (.inl rfl) rfl rfl rfl ?_; clear hf; clear a; intro a hf
  refine ops_v hf hh (yv_fieldAddr Tryz.fo_128_0 rfl) (.inl rfl) rfl rfl rfl ?_; clear hf; clear a; intro a hf
  refine ops_v hf hh (yv_fieldAddr Tryz.fo_24_4 rfl) (.inl rfl) rfl rfl rfl ?_; clear hf; clear a; intro a hf
  refine ops_v hf hh (yv_load Tryz.sc_22 rfl (fun _ h => by first | exact h.at (i := 0) rfl | exact h.old hb) (by first | rfl | assumption)) (.inl rfl) rfl rfl rfl ?_; clear hf; clear a; intro a hf
  refine ops_v hf hh (yv_len Tryz.se_22 rfl) (.inl rfl) rfl rfl rfl ?_; clear hf; clear a; intro a hf
  refine ops_v hf hh (yv_shl1 (.inr rfl) rfl rfl (by omega) (by omega)) (.inl rfl) rfl rfl rfl ?_; clear hf; clear a; intro a hf
  first | refine ops_v hf hh (yv_subx (.inr rfl) rfl rfl (by omega) (by simp only [IntKind.top]; omega)) (.inl rfl) rfl rfl rfl ?_; clear hf; clear a; intro a hf | refine ops_v hf hh (yv_bin rfl rfl rfl) (.inl rfl) rfl rfl rfl ?_; clear hf; clear a; intro a hf
  refine ops_v hf hh (yv_assign rfl) (.inl rfl) rfl rfl rfl ?_; clear hf; clear a; intro a hf
  refine ops_end ?_
  refine then_n ?_
  refine sy_ret ?_
  refine ret_r hf rfl rfl ?_
  refine ⟨intv ?_, hh.ext⟩
  rw [Int.toNat_natCast] at *
  omega
end Go.Proofs.YtccpgpnekoncoaaGreatDoor

